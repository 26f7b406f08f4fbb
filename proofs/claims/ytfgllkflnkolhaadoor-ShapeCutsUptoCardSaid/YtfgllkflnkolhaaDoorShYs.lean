/-
  Chapter 16: a model cut, and one that fits a vocabulary: the walks.
-/
import Derived.Test.YtfgllkflnkolhaaDoorShYq
import Derived.Test.YtfgllkflnkolhaaDoorShYr
set_option linter.unusedVariables false
namespace Go.Wk.YtfgllkflnkolhaaDoor
open Go Go.Wk Go.Proofs

/-- the first blocks of a model, where they lie -/
def LM.cut (m : LM) (k : Nat) : LM := { m with s := { m.s with lay := k }, bs := m.bs.take k }
theorem LM.cut_p (m : LM) (k : Nat) : (m.cut k).p = cutP m.p k := by
  unfold LM.cut LM.p cutP
  simp only [List.map_take]
theorem LM.At.cut {m : LM} {w : World} (h : m.At w) (k : Nat) : (m.cut k).At w :=
  ⟨h.voc, h.rows, fun j u hj => h.blk j u (by
    have e : m.bs.flatMap bkC = (m.bs.take k).flatMap bkC ++ (m.bs.drop k).flatMap bkC := by rw [← List.flatMap_append, List.take_append_drop]
    have hj : ((m.bs.take k).flatMap bkC)[j]? = some u := hj
    rw [e, List.getElem?_append_left (List.getElem?_eq_some_iff.1 hj).1]; exact hj), fun b hb => h.bs b (List.mem_of_mem_take hb)⟩
theorem LM.Sm.cut {m : LM} (h : m.Sm) (k : Nat) : (m.cut k).Sm :=
  ⟨h.rows, fun b hb => h.bs b (List.mem_of_mem_take hb), Nat.le_trans (by show (m.bs.take k).length ≤ _; rw [List.length_take]; exact Nat.min_le_right _ _) h.bl, h.V⟩
theorem valid_lay {m : LM} (h : (validQ m.p).2.2 = 0) : (m.bs.length : Int) = m.s.lay := by
  have := (allQ_ok (valid_ok.1 h).1).2.2.lay
  simpa [LM.p] using this
/-- a model of one's own is laid into a new block -/
theorem OwnM.out {TM TB : TypeId} {wx w0 w w' : World} {t : LM} {q : Nat} (h : OwnM TM TB w0 w t) (hf : Fr no wx w0) (hq : q < w0.heap.size) (hqx : wx.heap.size ≤ q) (f : Fr (fun c => c = q) w w') : OwnM TM TB wx w' t :=
  ⟨fun r hr => ⟨(h.rows r hr).1.fr f (fun g hg e => by have := (h.rows r hr).2 g hg; have e : g = q := e; omega), fun g hg => Nat.le_trans hf.size ((h.rows r hr).2 g hg)⟩, h.ap,
   h.txt.fr f (fun g hg e => by have := (h.ge g (.inl hg)).1; have e : g = q := e; omega), h.mrg.fr f (fun g hg e => by have := (h.ge g (.inr (.inl hg))).1; have e : g = q := e; omega), h.blk.fr f (fun g hg e => by have := (h.ge g (.inr (.inr hg))).1; have e : g = q := e; omega),
   fun g hg => ⟨Nat.le_trans hf.size (h.ge g hg).1, (h.ge g hg).2⟩, h.tm, h.mb, (hf.tr h.fr).trans f fun z hz e => by have : z = q := e; omega⟩
set_option maxHeartbeats 4000000 in
theorem wCut (m : LM) (k : Int) (w : World) (hm : m.At w) (hl : m.Sm) (hcap : m.Cap) (hbc : m.bs.length ≤ m.bc) :
    CallsF Tryd.prog 33 [lmV m, i64 k] w fun r w' => ∃ c : LM, r = .tuple #[lmV c, i64 (cutQ m.p k).2] ∧ c.p = (cutQ m.p k).1 ∧ OwnS w w' c := by
  have hbl := hl.bl
  unfold cutQ
  refine callsF Tryd.func33 rfl rfl (by decide) rfl ?_
  refine sA [] rfl ?_
  refine ev_box rfl rfl rfl fun p w1 hp kp f1 => ?_
  have kp : Blk w1 p (lmC m) 51 := kp
  refine ev_alloc rfl rfl inf51 (fun q w2 hq kq f2 => ?_)
  have kp2 := kp.fr0 f2
  have hF2 := f1.tr f2
  have hpl := kp.lt
  clear kp
  refine sA [] rfl ?_; refine ev_loadAggB rfl rfl tabOk rfl rfl ‹_› (by rfl) ?_
  refine ev_call rfl rfl rfl (wValid m w2 (hm.fr0 hF2) hl.V hbl hcap) ?_
  rintro r w3 ⟨rfl, f3⟩
  have kp3 := kp2.fr0 f3
  have kq3 := kq.fr0 f3
  have hF3 := hF2.tr f3
  have hv := @valid_lay m
  obtain ⟨a, ha⟩ : ∃ a, a = validQ m.p := ⟨_, rfl⟩
  rw [← ha] at hv ⊢
  clear kp2 kq
  refine sA [] rfl ?_
  refine ev_alloc rfl rfl inf63 (fun d w4 hd kd f4 => ?_)
  refine ev_storeAgg tabOk rfl rfl rfl rfl rfl rfl kd rfl (fun w5 kd5 f5 => ?_)
  have h35 : Fr no w3 w5 := f4.trans f5 fun z hz e => by have : z = d := e; omega
  have kp5 := kp3.fr0 h35
  have kq5 := kq3.fr0 h35
  have hF5 := hF3.tr h35
  have hqw : w.heap.size ≤ q := Nat.le_trans f1.size hq
  have hpw : w.heap.size ≤ p := hp
  have hpq : p ≠ q := fun e => by omega
  clear kp3 kq3
  refine sC [] rfl ?_; refine sD [] rfl ?_; refine sD [] rfl ?_; refine sD [] rfl ?_
  refine ev_condD rfl (fun c => ?_) (fun c => ?_)
  · rw [if_neg (show ¬ a.2.2 = 0 by simpa using c)]
    refine sA [] rfl ?_
    refine ev_build rfl rfl (v := lmV zM) rfl (fun w => by kernel_rfl) ?_
    refine sA [] rfl ?_
    refine ev_storeAgg tabOk rfl rfl rfl rfl rfl rfl kq5 rfl (fun w6 kq6 f6 => ?_)
    have hF6 : Fr no w w6 := hF5.trans f6 fun z hz e => by have : z = q := e; omega
    refine sA [] rfl ?_
    exact retG tabOk (.inr rfl) rfl [lmV zM, i64 a.2.2] ⟨⟨_, rfl, .inl ⟨rfl, _, rfl, rfl, Cs.of_blk kq6⟩⟩, rfl, trivial⟩ ⟨zM, rfl, rfl, zM_own hF6⟩
  have h0 : a.2.2 = 0 := by simpa using c
  have hv := hv h0
  rw [if_pos h0]
  refine sC [] rfl ?_; refine sD [] rfl ?_; refine sD [] rfl ?_; refine sD [] rfl ?_
  by_cases h1 : k < 1
  · rw [if_pos (show k < 1 ∨ m.p.s.lay < k from .inl h1), show decide (k < 1) = true from decide_eq_true h1]
    refine sA [] rfl ?_
    refine ev_build rfl rfl (v := lmV zM) rfl (fun w => by kernel_rfl) ?_
    skip
    refine ev_storeAgg tabOk rfl rfl rfl rfl rfl rfl kq5 rfl (fun w6 kq6 f6 => ?_)
    have hF6 : Fr no w w6 := hF5.trans f6 fun z hz e => by have : z = q := e; omega
    refine sA [] rfl ?_
    exact retG tabOk (.inr rfl) rfl [lmV zM, i64 160] ⟨⟨_, rfl, .inl ⟨rfl, _, rfl, rfl, Cs.of_blk kq6⟩⟩, rfl, trivial⟩ ⟨zM, rfl, rfl, zM_own hF6⟩
  rw [show decide (k < 1) = false from decide_eq_false h1]
  refine sA [] rfl ?_; refine ev_loadB rfl rfl tabOk rfl rfl ‹_› (by rfl) ?_; refine sD [] rfl ?_; refine sD [] rfl ?_; refine sD [] rfl ?_
  by_cases h2 : m.s.lay < k
  · rw [if_pos (show k < 1 ∨ m.p.s.lay < k from .inr h2), show decide (k > m.s.lay) = true from decide_eq_true h2]
    refine sA [] rfl ?_
    refine ev_build rfl rfl (v := lmV zM) rfl (fun w => by kernel_rfl) ?_
    skip
    refine ev_storeAgg tabOk rfl rfl rfl rfl rfl rfl kq5 rfl (fun w6 kq6 f6 => ?_)
    have hF6 : Fr no w w6 := hF5.trans f6 fun z hz e => by have : z = q := e; omega
    refine sA [] rfl ?_
    exact retG tabOk (.inr rfl) rfl [lmV zM, i64 160] ⟨⟨_, rfl, .inl ⟨rfl, _, rfl, rfl, Cs.of_blk kq6⟩⟩, rfl, trivial⟩ ⟨zM, rfl, rfl, zM_own hF6⟩
  rw [if_neg (show ¬ (k < 1 ∨ m.p.s.lay < k) from fun e => e.elim h1 h2), show decide (k > m.s.lay) = false from decide_eq_false h2]
  obtain ⟨n, rfl⟩ := Int.eq_ofNat_of_zero_le (show 0 ≤ k by omega)
  rw [Int.toNat_natCast]
  refine sA [] rfl ?_; refine ev_loadB rfl rfl tabOk rfl rfl ‹_› (by rfl) ?_; refine sA [] rfl ?_
  refine ev_slice (A := m.bA) (len := m.bs.length) (cap := m.bc) (i := 0) (j := (n : Int)) rfl rfl tabOk rfl rfl rfl rfl (by omega) (by omega) (by omega) ?_
  have hcA : cutA 17 (Int.toNat 0) m.bc m.bA = m.bA := by
    obtain ⟨g, o, e, _⟩ := blk_at (hm.blk) (i := 0) (by omega)
    rw [e]
    unfold cutA
    split
    · rfl
    · simp [Addr.add_lit]
  rw [hcA, show (n : Int).toNat - Int.toNat 0 = (m.bs.take n).length by rw [List.length_take]; omega, show m.bc - Int.toNat 0 = m.bc from rfl]
  refine sA [] rfl ?_
  refine ev_store tabOk rfl rfl rfl rfl rfl rfl kp5 rfl (fun w6 kp6 f6 => ?_)
  refine sA [] rfl ?_
  refine ev_store tabOk rfl rfl rfl rfl rfl rfl kp6 rfl (fun w7 kp7 f7 => ?_)
  have kp7 : Blk w7 p (lmC (m.cut n)) 51 := kp7
  have hF7 : Fr no w w7 := (hF5.trans f6 fun z hz e => by have : z = p := e; omega).trans f7 fun z hz e => by have : z = p := e; omega
  have kq7 := (kq5.fr f6 (fun e => hpq e.symm)).fr f7 (fun e => hpq e.symm)
  have hmc := (hm.fr0 hF7).cut n
  refine sA [] rfl ?_; refine ev_loadAggB rfl rfl tabOk rfl rfl ‹_› (by rfl) ?_
  refine ev_call rfl rfl rfl (wOwn (m.cut n) w7 hmc (hl.cut n)) ?_
  rintro r w8 ⟨t, rfl, htp, hO⟩
  have kq8 := kq7.fr0 hO.fr
  skip
  refine ev_storeAgg tabOk rfl rfl rfl rfl rfl rfl kq8 rfl (fun w9 kq9 f9 => ?_)
  refine sA [] rfl ?_
  exact retG tabOk (.inr rfl) rfl [lmV t, i64 0] ⟨⟨_, rfl, .inl ⟨rfl, _, rfl, rfl, Cs.of_blk kq9⟩⟩, rfl, trivial⟩ ⟨t, rfl, by rw [htp, LM.cut_p], hO.out hF7 kq7.lt hqw f9⟩
theorem refCut (m : LM) (k : Int) (w : World) (hm : m.At w) (hl : m.Sm) (hcap : m.Cap) (hbc : m.bs.length ≤ m.bc) :
    CallsF Tryd.prog 34 [lmV m, i64 k] w fun r w' => ∃ c : LM, r = .tuple #[lmV c, i64 (cutQ m.p k).2] ∧ c.p = (cutQ m.p k).1 ∧ c.At w' ∧ Fr no w w' := by
  have hbl := hl.bl
  unfold cutQ
  refine callsF Tryd.func34 rfl rfl (by decide) rfl ?_
  refine sA [] rfl ?_
  refine ev_box rfl rfl rfl fun p w1 hp kp f1 => ?_
  have kp : Blk w1 p (lmC m) 43 := kp
  refine ev_alloc rfl rfl inf43 (fun q w2 hq kq f2 => ?_)
  have kp2 := kp.fr0 f2
  have hF2 := f1.tr f2
  have hpl := kp.lt
  clear kp
  refine sA [] rfl ?_; refine ev_loadAggB rfl rfl tabOk rfl rfl ‹_› (by rfl) ?_
  refine ev_call rfl rfl rfl (refValid m w2 (hm.fr0 hF2) hl hcap) ?_
  rintro r w5 ⟨rfl, f5⟩
  have kp5 := kp2.fr0 f5
  have kq5 := kq.fr0 f5
  have hF5 := hF2.tr f5
  have hv := @valid_lay m
  obtain ⟨a, ha⟩ : ∃ a, a = validQ m.p := ⟨_, rfl⟩
  rw [← ha] at hv ⊢
  have hqw : w.heap.size ≤ q := Nat.le_trans f1.size hq
  have hpw : w.heap.size ≤ p := hp
  have hpq : p ≠ q := fun e => by omega
  clear kp2 kq
  refine sC [] rfl ?_; refine sC [] rfl ?_; refine sC [] rfl ?_; refine sD [] rfl ?_
  refine ev_condD rfl (fun c => ?_) (fun c => ?_)
  · rw [if_neg (show ¬ a.2.2 = 0 by simpa using c)]
    refine sA [] rfl ?_
    refine ev_build rfl rfl (v := lmV zM) rfl (fun w => by kernel_rfl) ?_
    refine sA [] rfl ?_
    refine ev_storeAgg tabOk rfl rfl rfl rfl rfl rfl kq5 rfl (fun w6 kq6 f6 => ?_)
    have hF6 : Fr no w w6 := hF5.trans f6 fun z hz e => by have : z = q := e; omega
    refine sA [] rfl ?_
    exact retG tabOk (.inr rfl) rfl [lmV zM, i64 a.2.2] ⟨⟨_, rfl, .inl ⟨rfl, _, rfl, rfl, Cs.of_blk kq6⟩⟩, rfl, trivial⟩ ⟨zM, rfl, rfl, (zM_own (TM := 0) (TB := 0) hF6).At, hF6⟩
  have h0 : a.2.2 = 0 := by simpa using c
  have hv := hv h0
  rw [if_pos h0]
  refine sC [] rfl ?_; refine sD [] rfl ?_; refine sD [] rfl ?_; refine sD [] rfl ?_
  by_cases h1 : k < 1
  · rw [if_pos (show k < 1 ∨ m.p.s.lay < k from .inl h1), show decide (k < 1) = true from decide_eq_true h1]
    refine sA [] rfl ?_
    refine ev_build rfl rfl (v := lmV zM) rfl (fun w => by kernel_rfl) ?_
    skip
    refine ev_storeAgg tabOk rfl rfl rfl rfl rfl rfl kq5 rfl (fun w6 kq6 f6 => ?_)
    have hF6 : Fr no w w6 := hF5.trans f6 fun z hz e => by have : z = q := e; omega
    refine sA [] rfl ?_
    exact retG tabOk (.inr rfl) rfl [lmV zM, i64 160] ⟨⟨_, rfl, .inl ⟨rfl, _, rfl, rfl, Cs.of_blk kq6⟩⟩, rfl, trivial⟩ ⟨zM, rfl, rfl, (zM_own (TM := 0) (TB := 0) hF6).At, hF6⟩
  rw [show decide (k < 1) = false from decide_eq_false h1]
  refine sA [] rfl ?_; refine ev_loadB rfl rfl tabOk rfl rfl ‹_› (by rfl) ?_; refine sD [] rfl ?_; refine sD [] rfl ?_; refine sD [] rfl ?_
  by_cases h2 : m.s.lay < k
  · rw [if_pos (show k < 1 ∨ m.p.s.lay < k from .inr h2), show decide (k > m.s.lay) = true from decide_eq_true h2]
    refine sA [] rfl ?_
    refine ev_build rfl rfl (v := lmV zM) rfl (fun w => by kernel_rfl) ?_
    skip
    refine ev_storeAgg tabOk rfl rfl rfl rfl rfl rfl kq5 rfl (fun w6 kq6 f6 => ?_)
    have hF6 : Fr no w w6 := hF5.trans f6 fun z hz e => by have : z = q := e; omega
    refine sA [] rfl ?_
    exact retG tabOk (.inr rfl) rfl [lmV zM, i64 160] ⟨⟨_, rfl, .inl ⟨rfl, _, rfl, rfl, Cs.of_blk kq6⟩⟩, rfl, trivial⟩ ⟨zM, rfl, rfl, (zM_own (TM := 0) (TB := 0) hF6).At, hF6⟩
  rw [if_neg (show ¬ (k < 1 ∨ m.p.s.lay < k) from fun e => e.elim h1 h2), show decide (k > m.s.lay) = false from decide_eq_false h2]
  obtain ⟨n, rfl⟩ := Int.eq_ofNat_of_zero_le (show 0 ≤ k by omega)
  rw [Int.toNat_natCast]
  refine sA [] rfl ?_
  refine ev_store tabOk rfl rfl rfl rfl rfl rfl kp5 rfl (fun w6 kp6 f6 => ?_)
  refine sA [] rfl ?_; refine ev_loadB rfl rfl tabOk rfl rfl ‹_› (by rfl) ?_; refine sA [] rfl ?_
  refine ev_slice (A := m.bA) (len := m.bs.length) (cap := m.bc) (i := 0) (j := (n : Int)) rfl rfl tabOk rfl rfl rfl rfl (by omega) (by omega) (by omega) ?_
  have hcA : cutA 17 (Int.toNat 0) m.bc m.bA = m.bA := by
    obtain ⟨g, o, e, _⟩ := blk_at (hm.blk) (i := 0) (by omega)
    rw [e]
    unfold cutA
    split
    · rfl
    · simp [Addr.add_lit]
  rw [hcA, show (n : Int).toNat - Int.toNat 0 = (m.bs.take n).length by rw [List.length_take]; omega, show m.bc - Int.toNat 0 = m.bc from rfl]
  refine sA [] rfl ?_
  refine ev_store tabOk rfl rfl rfl rfl rfl rfl kp6 rfl (fun w7 kp7 f7 => ?_)
  have kp7 : Blk w7 p (lmC (m.cut n)) 43 := kp7
  have hF7 : Fr no w w7 := (hF5.trans f6 fun z hz e => by have : z = p := e; omega).trans f7 fun z hz e => by have : z = p := e; omega
  have kq7 := (kq5.fr f6 (fun e => hpq e.symm)).fr f7 (fun e => hpq e.symm)
  refine sA [] rfl ?_; refine ev_loadAggB rfl rfl tabOk rfl rfl ‹_› (by rfl) ?_
  refine ev_storeAgg tabOk rfl rfl rfl rfl rfl rfl kq7 rfl (fun w9 kq9 f9 => ?_)
  have hF9 : Fr no w w9 := hF7.trans f9 fun z hz e => by have : z = q := e; omega
  refine sA [] rfl ?_
  exact retG tabOk (.inr rfl) rfl [lmV (m.cut n), i64 0] ⟨⟨_, rfl, .inl ⟨rfl, _, rfl, rfl, Cs.of_blk kq9⟩⟩, rfl, trivial⟩ ⟨m.cut n, rfl, LM.cut_p m n, (hm.fr0 hF9).cut n, hF9⟩
/-- Fitting says -/
def fitQ (m : Md) (v : VV) : Bool := decide ((validQ m).2.2 = 0) && decide (m.V.same v)
theorem wFitting (m : LM) (A : Option Addr) (c : Nat) (B : Option Addr) (d : Nat) (v : VV) (w : World) (hm : m.At w) (hl : m.Sm) (hcap : m.Cap) (hv : Vo w A B v) (hS : VS v) :
    CallsF Tryd.prog 35 [lmV m, vv A c B d v] w fun r w' => r = .bool (fitQ m.p v) ∧ Fr no w w' := by
  have hbl := hl.bl
  refine callsF Tryd.func35 rfl rfl (by decide) rfl ?_
  refine sA [] rfl ?_
  refine ev_box rfl rfl rfl fun p w1 hp kp f1 => ?_
  have kp : Blk w1 p (lmC m) 51 := kp
  refine ev_box rfl rfl rfl fun q w2 hq kq f2 => ?_
  have kq : Blk w2 q [.slice A v.texts.length c, .slice B v.merges.length d] 48 := kq
  have kp2 := kp.fr0 f2
  have hF2 := f1.tr f2
  clear kp
  refine sA [] rfl ?_; refine ev_loadAggB rfl rfl tabOk rfl rfl ‹_› (by rfl) ?_
  refine ev_call rfl rfl rfl (wValid m w2 (hm.fr0 hF2) hl.V hbl hcap) ?_
  rintro r w3 ⟨rfl, f3⟩
  have kp3 := kp2.fr0 f3
  have kq3 := kq.fr0 f3
  have hF3 := hF2.tr f3
  unfold fitQ
  obtain ⟨a, ha⟩ : ∃ a, a = validQ m.p := ⟨_, rfl⟩
  rw [← ha]
  clear kp2 kq
  refine sA [] rfl ?_
  refine ev_alloc rfl rfl inf63 (fun dd w4 hd kd f4 => ?_)
  refine ev_storeAgg tabOk rfl rfl rfl rfl rfl rfl kd rfl (fun w5 kd5 f5 => ?_)
  have h35 : Fr no w3 w5 := f4.trans f5 fun z hz e => by have : z = dd := e; omega
  have kp5 := kp3.fr0 h35
  have kq5 := kq3.fr0 h35
  have hF5 := hF3.tr h35
  clear kp3 kq3
  refine sC [] rfl ?_; refine sD [] rfl ?_; refine sD [] rfl ?_; refine sD [] rfl ?_
  by_cases h0 : a.2.2 = 0
  · rw [decide_eq_true h0]
    refine sA [] rfl ?_
    have hvo : Cs _ (some ⟨p, 0 + 6, none⟩) [.slice m.tA m.V.texts.length m.tc, .slice m.mA m.V.merges.length m.mc] := (Cs.of_blk kp5).part 6 (fun j u hj => by
      match j, hj with
      | 0, hj => exact hj
      | 1, hj => exact hj
      | j + 2, hj => simp at hj)
    refine ev_loadAgg rfl rfl tabOk rfl rfl rfl hvo ?_
    refine ev_loadAggB rfl rfl tabOk rfl rfl ‹_› (by rfl) ?_
    refine ev_call rfl rfl rfl (wSame m.tA m.tc m.mA m.mc m.V A c B d v _ ((hm.fr0 hF5).voc) (hv.fr0 hF5) hl.V hS) ?_
    rintro r w6 ⟨rfl, f6⟩
    refine sA [] rfl ?_
    exact ret1 (.inr rfl) rfl rfl ⟨by rw [Bool.true_and]; rfl, hF5.tr f6⟩
  · rw [decide_eq_false h0]
    refine sA [] rfl ?_
    exact ret1 (.inr rfl) rfl rfl ⟨rfl, hF5⟩
theorem refFitting (m : LM) (A : Option Addr) (c : Nat) (B : Option Addr) (d : Nat) (v : VV) (w : World) (hm : m.At w) (hl : m.Sm) (hcap : m.Cap) (hv : Vo w A B v) (hS : VS v) :
    CallsF Tryd.prog 36 [lmV m, vv A c B d v] w fun r w' => r = .bool (fitQ m.p v) ∧ Fr no w w' := by
  have hbl := hl.bl
  refine callsF Tryd.func36 rfl rfl (by decide) rfl ?_
  refine sA [] rfl ?_
  refine ev_box rfl rfl rfl fun p w1 hp kp f1 => ?_
  have kp : Blk w1 p (lmC m) 43 := kp
  refine ev_box rfl rfl rfl fun q w2 hq kq f2 => ?_
  have kq : Blk w2 q [.slice A v.texts.length c, .slice B v.merges.length d] 39 := kq
  have kp2 := kp.fr0 f2
  have hF2 := f1.tr f2
  clear kp
  refine sA [] rfl ?_; refine ev_loadAggB rfl rfl tabOk rfl rfl ‹_› (by rfl) ?_
  refine ev_call rfl rfl rfl (refValid m w2 (hm.fr0 hF2) hl hcap) ?_
  rintro r w3 ⟨rfl, f3⟩
  have kp3 := kp2.fr0 f3
  have kq3 := kq.fr0 f3
  have hF3 := hF2.tr f3
  unfold fitQ
  obtain ⟨a, ha⟩ : ∃ a, a = validQ m.p := ⟨_, rfl⟩
  rw [← ha]
  clear kp2 kq
  refine sC [] rfl ?_; refine sC [] rfl ?_; refine sC [] rfl ?_; refine sD [] rfl ?_
  have hF5 := hF3
  by_cases h0 : a.2.2 = 0
  · rw [decide_eq_true h0]
    refine sA [] rfl ?_
    have hvo : Cs _ (some ⟨p, 0 + 6, none⟩) [.slice m.tA m.V.texts.length m.tc, .slice m.mA m.V.merges.length m.mc] := (Cs.of_blk kp3).part 6 (fun j u hj => by
      match j, hj with
      | 0, hj => exact hj
      | 1, hj => exact hj
      | j + 2, hj => simp at hj)
    refine ev_loadAgg rfl rfl tabOk rfl rfl rfl hvo ?_
    refine ev_loadAggB rfl rfl tabOk rfl rfl ‹_› (by rfl) ?_
    refine ev_call rfl rfl rfl (refSame m.tA m.tc m.mA m.mc m.V A c B d v _ ((hm.fr0 hF5).voc) (hv.fr0 hF5) hl.V hS) ?_
    rintro r w6 ⟨rfl, f6⟩
    refine sA [] rfl ?_
    exact ret1 (.inr rfl) rfl rfl ⟨by rw [Bool.true_and]; rfl, hF5.tr f6⟩
  · rw [decide_eq_false h0]
    refine sA [] rfl ?_
    exact ret1 (.inr rfl) rfl rfl ⟨rfl, hF5⟩
end Go.Wk.YtfgllkflnkolhaaDoor
