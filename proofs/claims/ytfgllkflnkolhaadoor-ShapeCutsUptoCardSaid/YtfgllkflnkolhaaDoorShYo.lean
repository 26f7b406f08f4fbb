/-
  Chapter 16: a copied model that is written into; the law ShapeReaches.
-/
import Derived.Test.YtfgllkflnkolhaaDoorShYn
set_option linter.unusedVariables false
namespace Go.Wk.YtfgllkflnkolhaaDoor
open Go Go.Wk Go.Proofs

section
variable {P : Program} {fn : Func} {R : Ending → World → Prop} {n : Nat} {w : World}
/-- a store into a row of one's own, of several cells each -/
theorem ev_storeFlat {k : List It} {env : Env} {L l : List Oper} {t : TypeId} {x y : Operand} {ty : TypeId} {ps : String} {af : Array Edge} {g : Option (Nat × Bool)} {tab : Tab} {b o sz : Nat} {v : Value} {e : TypeId} {r : Value} {nn : Nat} {xs : List Value}
    (hT : TabOk P tab) (hg : guardOf L env g = some true) (hx : ev env x = some (.pointer (some ⟨b, o, none⟩))) (hy : ev env y = some v) (hag : aggT (tyAt tab t) = some false) (hs : szAt tab t = 1) (hv : v.oneCell' = true)
    (hr : Own w e sz r nn xs) (hb : r.ownBlock = some b) (ho : o < nn * sz)
    (hk : ∀ w', Own w' e sz r nn (xs.set o v) → Fr (fun c => c = b) w w' → H P fn R n (.ops L l :: k) .normal env w') :
    H P fn R n (.ops L (⟨none, .store t x y, ty, ps, af, g⟩ :: l) :: k) .normal env w := by
  rcases hr.2 with ⟨rfl, _⟩ | ⟨q, cap, cur, rfl, hbq, hq, hnc, hcm, hcs, ht⟩
  · cases hb
  · simp only [Value.ownBlock, Option.some.injEq] at hb
    subst hb
    have hB : Blk w q cur.toList e := hq
    have hlen : cur.toList.length = cap * sz := by simp [hcs]
    have hle : nn * sz ≤ cap * sz := Nat.mul_le_mul_right _ hnc
    refine ev_store hT hg hx hy hag hs hv hB (blt_of (by omega)) (fun w' hB' hf => hk w' ⟨by rw [List.length_set]; exact hr.1, .inr ⟨q, cap, _, rfl, hbq, hB', hnc, hcm, ?_, ?_⟩⟩ hf)
    · rw [setV_eq]; simp [hcs]
    · rw [setV_eq]
      show (cur.toList.set o v).take (nn * sz) = xs.set o v
      rw [List.take_set, ht]
end
theorem flat_set (j : Nat) (hj : j < 17) (v : Value) : ∀ (l : List (Bk Rw)) (k : Nat) (h : k < l.length), (l.flatMap bkC).set (k * 17 + j) v = (l.take k).flatMap bkC ++ ((bkC l[k]).set j v ++ (l.drop (k + 1)).flatMap bkC)
  | [], k, h => by simp at h
  | b :: l, 0, h => by
    rw [List.flatMap_cons, Nat.zero_mul, Nat.zero_add, List.set_append_left _ _ (by rw [bkC_len]; exact hj)]
    rfl
  | b :: l, k + 1, h => by
    have ih := flat_set j hj v l k (by simpa using h)
    rw [List.flatMap_cons, List.set_append_right _ _ (by rw [bkC_len]; omega), bkC_len, show (k + 1) * 17 + j - 17 = k * 17 + j by omega, ih]
    rfl
/-- a model with one block put for another -/
def LM.put (m : LM) (k : Nat) (b : Bk Rw) : LM := { m with bs := m.bs.take k ++ [b] ++ m.bs.drop (k + 1) }
theorem put_len {m : LM} {k : Nat} {b : Bk Rw} (h : k < m.bs.length) : (m.put k b).bs.length = m.bs.length := by
  simp [LM.put]; omega
theorem put_lmC {m : LM} {k : Nat} {b : Bk Rw} (h : k < m.bs.length) : lmC (m.put k b) = lmC m := by
  have := put_len (b := b) h
  show lmC _ = _
  unfold lmC
  rw [this]; rfl
theorem put_flat {m : LM} {k : Nat} {b : Bk Rw} : (m.put k b).bs.flatMap bkC = (m.bs.take k).flatMap bkC ++ (bkC b ++ (m.bs.drop (k + 1)).flatMap bkC) := by
  simp [LM.put, List.flatMap_append]
theorem put_self {m : LM} {k : Nat} (h : k < m.bs.length) : m.put k m.bs[k] = m := by
  have : m.bs.take k ++ [m.bs[k]] ++ m.bs.drop (k + 1) = m.bs := by
    rw [List.append_assoc, List.singleton_append, List.getElem_cons_drop, List.take_append_drop]
  unfold LM.put; rw [this]
theorem put_all {m : LM} {k : Nat} {b : Bk Rw} : (m.put k b).all = ([m.gain, m.cos, m.sin, m.bend, m.e] ++ (m.bs.take k).flatMap Bk.rows) ++ (b.rows ++ ((m.bs.drop (k + 1)).flatMap Bk.rows ++ [m.un])) := by
  simp [LM.all, LM.put, List.flatMap_append]
theorem put_at {m : LM} {k : Nat} {b : Bk Rw} (h : k < m.bs.length) : (m.put k b).bs[k]'(by rw [put_len h]; exact h) = b := by
  simp only [LM.put]
  rw [List.getElem_append_left (by simp; omega), List.getElem_append_right (by simp; omega)]
  simp
theorem put_put {m : LM} {k : Nat} {b b' : Bk Rw} (h : k < m.bs.length) : (m.put k b).put k b' = m.put k b' := by
  have hl : (m.bs.take k).length = k := by simp; omega
  have e1 : (m.bs.take k ++ [b] ++ m.bs.drop (k + 1)).take k = m.bs.take k := by rw [List.append_assoc]; exact List.take_left' hl
  have e2 : (m.bs.take k ++ [b] ++ m.bs.drop (k + 1)).drop (k + 1) = m.bs.drop (k + 1) := List.drop_left' (by simp; omega)
  unfold LM.put
  simp only [e1, e2]
/-- the blocks' row is written -/
theorem OwnM.setBlk {TM TB : TypeId} {w0 w w' : World} {m : LM} (h : OwnM TM TB w0 w m) {k : Nat} (hk : k < m.bs.length) {b : Bk Rw} (hb : b.rows = m.bs[k].rows) {g : Nat} (hg : (Value.slice m.bA m.bs.length m.bc).ownBlock = some g) (hf : Fr (fun c => c = g) w w')
    (hO : Own w' TB 17 (.slice m.bA m.bs.length m.bc) m.bs.length ((m.put k b).bs.flatMap bkC)) : OwnM TM TB w0 w' (m.put k b) := by
  have e1 : (m.put k b).all = m.all := by
    have h2 := put_all (m := m) (k := k) (b := m.bs[k])
    rw [put_self hk] at h2
    rw [put_all, h2, hb]
  have hl := put_len (b := b) hk
  have z := h.ge g (.inr (.inr hg))
  refine ⟨fun r hr => ?_, by rw [e1]; exact h.ap, h.txt.fr hf (fun x hx e => ?_), h.mrg.fr hf (fun x hx e => ?_), by rw [hl]; exact hO, fun x hx => ?_, fun x hx => ?_, fun x hx => ?_, h.fr.trans hf fun x hx e => by have : x = g := e; omega⟩
  · rw [e1] at hr
    exact (h.rows r hr).fr hf (fun x hx e => z.2 r hr (by have : x = g := e; rw [← this]; exact hx))
  · have : x = g := e
    exact (h.tm x hx).2 (by rw [this]; exact hg)
  · have : x = g := e
    exact h.mb x hx (by rw [this]; exact hg)
  · rw [e1]; rw [hl] at hx; exact h.ge x hx
  · rw [hl]; exact h.tm x hx
  · rw [hl]; exact h.mb x hx
/-- a row is written -/
theorem OwnM.setRow {TM TB : TypeId} {w0 w w' : World} {m : LM} (h : OwnM TM TB w0 w m) {k : Nat} (hk : k < m.bs.length) {b : Bk Rw} {X Y : List Rw} {r r' : Rw} (hb0 : m.bs[k].rows = X ++ r :: Y) (hb : b.rows = X ++ r' :: Y) (hv : r'.v = r.v) (hc : bkC b = bkC m.bs[k]) {g : Nat} (hg : r.v.ownBlock = some g)
    (hf : Fr (fun c => c = g) w w') (hO : Own w' 56 1 r'.v r'.xs.length (r'.xs.map i8v)) : OwnM TM TB w0 w' (m.put k b) := by
  have hl := put_len (b := b) hk
  have e0 : m.all = ([m.gain, m.cos, m.sin, m.bend, m.e] ++ (m.bs.take k).flatMap Bk.rows ++ X) ++ r :: (Y ++ ((m.bs.drop (k + 1)).flatMap Bk.rows ++ [m.un])) := by
    have h2 := put_all (m := m) (k := k) (b := m.bs[k])
    rw [put_self hk, hb0] at h2
    rw [h2]; simp
  have e1 : (m.put k b).all = ([m.gain, m.cos, m.sin, m.bend, m.e] ++ (m.bs.take k).flatMap Bk.rows ++ X) ++ r' :: (Y ++ ((m.bs.drop (k + 1)).flatMap Bk.rows ++ [m.un])) := by
    rw [put_all, hb]; simp
  obtain ⟨L1, hL1⟩ : ∃ L1, L1 = [m.gain, m.cos, m.sin, m.bend, m.e] ++ (m.bs.take k).flatMap Bk.rows ++ X := ⟨_, rfl⟩
  obtain ⟨L2, hL2⟩ : ∃ L2, L2 = Y ++ ((m.bs.drop (k + 1)).flatMap Bk.rows ++ [m.un]) := ⟨_, rfl⟩
  rw [← hL1, ← hL2] at e0 e1
  have hrm : r ∈ m.all := by rw [e0]; simp
  have hap := h.ap
  rw [e0] at hap
  obtain ⟨p1, p2, p3⟩ := List.pairwise_append.1 hap
  obtain ⟨q1, q2⟩ := List.pairwise_cons.1 p2
  have hgl := OwnM.ge_all h hrm hg
  have off : ∀ x, (Value.slice m.tA m.V.texts.length m.tc).ownBlock = some x ∨ (Value.slice m.mA m.V.merges.length m.mc).ownBlock = some x ∨ (Value.slice m.bA m.bs.length m.bc).ownBlock = some x → ¬ x = g := fun x hx e => (h.ge x hx).2 r hrm (by rw [e]; exact hg)
  refine ⟨fun x hx => ?_, ?_, h.txt.fr hf (fun x hx => off x (.inl hx)), h.mrg.fr hf (fun x hx => off x (.inr (.inl hx))), ?_, fun x hx => ?_, fun x hx => ?_, fun x hx => ?_, h.fr.trans hf fun x hx e => by have : x = g := e; omega⟩
  · rw [e1] at hx
    rcases List.mem_append.1 hx with hx | hx
    · exact (h.rows x (by rw [e0]; exact List.mem_append.2 (.inl hx))).fr hf (fun y hy e => p3 x hx r (by simp) y hy (by have : y = g := e; rw [this]; exact hg))
    · rcases List.mem_cons.1 hx with rfl | hx
      · exact ⟨hO, fun y hy => (h.rows r hrm).2 y (by rw [← hv]; exact hy)⟩
      · exact (h.rows x (by rw [e0]; exact List.mem_append.2 (.inr (List.mem_cons_of_mem _ hx)))).fr hf (fun y hy e => q1 x hx g hg (by have : y = g := e; rw [← this]; exact hy))
  · rw [e1]
    refine List.pairwise_append.2 ⟨p1, List.pairwise_cons.2 ⟨fun x hx y hy => q1 x hx y (by rw [← hv]; exact hy), q2⟩, fun x hx y hy z hz e => ?_⟩
    rcases List.mem_cons.1 hy with rfl | hy
    · exact p3 x hx r (by simp) z hz (by rw [← hv]; exact e)
    · exact p3 x hx y (List.mem_cons_of_mem _ hy) z hz e
  · have e2 : (m.put k b).bs.flatMap bkC = m.bs.flatMap bkC := by
      have h2 := put_flat (m := m) (k := k) (b := m.bs[k])
      rw [put_self hk] at h2
      rw [put_flat, hc, h2]
    rw [hl, e2]
    exact h.blk.fr hf (fun x hx => off x (.inr (.inr hx)))
  · rw [hl] at hx
    refine ⟨(h.ge x hx).1, fun y hy e => ?_⟩
    rw [e1] at hy
    have z := (h.ge x hx).2
    rcases List.mem_append.1 hy with hy | hy
    · exact z y (by rw [e0]; exact List.mem_append.2 (.inl hy)) e
    · rcases List.mem_cons.1 hy with rfl | hy
      · exact z r hrm (by rw [← hv]; exact e)
      · exact z y (by rw [e0]; exact List.mem_append.2 (.inr (List.mem_cons_of_mem _ hy))) e
  · rw [hl]; exact h.tm x hx
  · rw [hl]; exact h.mb x hx
theorem put_p {m : LM} {k : Nat} (h : k < m.bs.length) {b : Bk Rw} {f : Bk (List Int8) → Bk (List Int8)} (hb : pBk b = f (pBk m.bs[k])) : (m.put k b).p = { m.p with bs := m.p.bs.modify k f } := by
  have e : (m.put k b).bs.map pBk = m.p.bs.modify k f := by
    rw [List.modify_eq_take_cons_drop (by simpa [LM.p] using h)]
    have e2 : m.p.bs[k]'(by simpa [LM.p] using h) = pBk m.bs[k] := by simp [LM.p]
    rw [e2, ← hb]
    simp [LM.put, LM.p, List.map_append, List.map_take, List.map_drop]
  show LM.p _ = _
  unfold LM.p
  rw [e]
  rfl
theorem blk_own_ne {w : World} {p g sz n : Nat} {T e : TypeId} {cs xs : List Value} {v : Value} (hb : Blk w p cs T) (ho : Own w e sz v n xs) (hg : v.ownBlock = some g) (hne : T ≠ e) : p ≠ g := fun h => by
  rcases ho.2 with ⟨rfl, _⟩ | ⟨q, cap, cur, rfl, _, hq, _⟩
  · cases hg
  · have hg : some q = some g := hg
    cases hg
    subst h
    have hb : w.heap[p]? = some (.cells ⟨cs⟩ T (0, 0)) := hb
    rw [hb] at hq
    cases hq
    exact hne rfl
/-- what stands of the copy while it is written into -/
structure PS (wt w' : World) (c : LM) (kk p14 : Nat) (b : Bk Rw) (q : Bk (List Int8)) : Prop where
  k : Blk w' p14 (lmC c) 51
  own : OwnS wt w' (c.put kk b)
  eq : pBk b = q
theorem PS.fr0 {wt w' w2 : World} {c : LM} {kk p14 : Nat} {b : Bk Rw} {q : Bk (List Int8)} (h : PS wt w' c kk p14 b q) (hf : Fr no w' w2) : PS wt w2 c kk p14 b q := ⟨h.k.fr0 hf, h.own.fr0 hf, h.eq⟩
theorem PS.set {wt w' w2 : World} {c : LM} {kk p14 : Nat} {b b' : Bk Rw} {q q' : Bk (List Int8)} (h : PS wt w' c kk p14 b q) (hk : kk < c.bs.length) {j : Nat} (hj : j < 17) {v : Value} (hc : bkC b' = (bkC b).set j v) (hr : b'.rows = b.rows) (hq : pBk b' = q')
    {g : Nat} (hg : (Value.slice c.bA c.bs.length c.bc).ownBlock = some g) (hp : p14 ≠ g) (hf : Fr (fun z => z = g) w' w2) (hO : Own w2 60 17 (.slice c.bA c.bs.length c.bc) c.bs.length (((c.put kk b).bs.flatMap bkC).set (kk * 17 + j) v)) : PS wt w2 c kk p14 b' q' := by
  have hl := put_len (b := b) hk
  have hk2 : kk < (c.put kk b).bs.length := by rw [hl]; exact hk
  refine ⟨h.k.fr hf hp, ?_, hq⟩
  have hgd : (Value.slice (c.put kk b).bA (c.put kk b).bs.length (c.put kk b).bc).ownBlock = some g := by rw [hl]; exact hg
  have hO2 : Own w2 60 17 (.slice (c.put kk b).bA (c.put kk b).bs.length (c.put kk b).bc) (c.put kk b).bs.length (((c.put kk b).put kk b').bs.flatMap bkC) := by
    rw [hl, put_flat, hc]
    have e := flat_set j hj v (c.put kk b).bs kk hk2
    rw [put_at hk] at e
    rw [← e]; exact hO
  have := h.own.setBlk hk2 (b := b') (by rw [put_at hk]; exact hr) hgd hf hO2
  rwa [put_put hk] at this
theorem PS.row {wt w' w2 : World} {c : LM} {kk p14 : Nat} {b b' : Bk Rw} {q q' : Bk (List Int8)} (h : PS wt w' c kk p14 b q) (hk : kk < c.bs.length) {X Y : List Rw} {r r' : Rw} (h0 : b.rows = X ++ r :: Y) (h1 : b'.rows = X ++ r' :: Y) (hv : r'.v = r.v) (hc : bkC b' = bkC b) (hq : pBk b' = q')
    {g : Nat} (hg : r.v.ownBlock = some g) (hp : p14 ≠ g) (hf : Fr (fun z => z = g) w' w2) (hO : Own w2 56 1 r'.v r'.xs.length (r'.xs.map i8v)) : PS wt w2 c kk p14 b' q' := by
  have hl := put_len (b := b) hk
  have hk2 : kk < (c.put kk b).bs.length := by rw [hl]; exact hk
  refine ⟨h.k.fr hf hp, ?_, hq⟩
  have := h.own.setRow hk2 (b := b') (by rw [put_at hk]; exact h0) h1 hv (by rw [put_at hk]; exact hc) hg hf hO
  rwa [put_put hk] at this
/-- the block's cells -/
theorem PS.cells {wt w' : World} {c : LM} {kk p14 : Nat} {b : Bk Rw} {q : Bk (List Int8)} (h : PS wt w' c kk p14 b q) (hk : kk < c.bs.length) : ∃ g, c.bA = some ⟨g, 0, none⟩ ∧ (Value.slice c.bA c.bs.length c.bc).ownBlock = some g ∧ Cs w' (some ⟨g, 0 + kk * 17, none⟩) (bkC b) := by
  have hl := put_len (b := b) hk
  have ho := h.own.blk
  rw [hl] at ho
  obtain ⟨g, o, e, hc⟩ := blk_at h.own.At.blk (i := kk) (by rw [hl]; exact hk)
  rw [put_at hk] at hc
  have e : c.bA = some ⟨g, o, none⟩ := e
  have z := Own.slice ho
  obtain ⟨A, cc, e2, _, h3⟩ := z
  injection e2 with e3
  have h4 := h3 ⟨g, o, none⟩ (by rw [← e3]; exact e)
  have ho0 : o = 0 := h4.2.1
  subst ho0
  rw [Int.toNat_natCast] at hc
  exact ⟨g, e, h4.1, hc⟩
set_option maxHeartbeats 16000000 in
theorem lawReaches (m : LM) (k a : Int) (w : World) (hm : m.At w) (hl : m.Sm) (hcap : m.Cap) (hT : QT w) (ha : -9223372036854775808 ≤ a ∧ a ≤ 9223372036854775807) :
    CallsF Tryd.prog 6 [lmV m, i64 k, i64 a] w fun r w' => r = .bool true ∧ Fr no w w' := by
  have hbl := hl.bl
  refine callsF Tryd.func6 rfl rfl (by decide) rfl ?_
  refine sA [] rfl ?_
  refine ev_box rfl rfl rfl fun p w1 hp kp f1 => ?_
  have kp : Blk w1 p (lmC m) 51 := kp
  refine sA [] rfl ?_
  refine ev_call rfl rfl rfl (lAwake w1 (hT.fr0 f1)) ?_
  rintro r w2 ⟨rfl, f2⟩
  have kp := kp.fr0 f2
  have hF := f1.tr f2
  refine sA [] rfl ?_; refine ev_loadAggB rfl rfl tabOk rfl rfl ‹_› (by rfl) ?_
  refine ev_call rfl rfl rfl (wReaches m w2 (hm.fr0 hF) hl.V hbl hcap) ?_
  rintro r w3 ⟨⟨A, ca, rfl, hA⟩, f3⟩
  have kp := kp.fr0 f3
  have hF := hF.tr f3
  have hok := fun h => @allQ_ok m.p h
  have hall := fun h => @chM_all m.p k.toNat a h
  have hval := @valid_err m.p
  have hlen : m.p.bs.length = m.bs.length := by simp [LM.p]
  have hrl : (allQ m.p).2.2 = 0 → reachL m.p = reachQ m.p := fun h => if_pos h
  have hrn : ¬ (allQ m.p).2.2 = 0 → reachL m.p = [] := fun h => if_neg h
  obtain ⟨e, he⟩ : ∃ e, e = (allQ m.p).2.2 := ⟨_, rfl⟩
  rw [← he] at hrl hrn ⊢
  by_cases e0 : e = 0
  rotate_left
  · rw [hrn e0]
    refine sC [] rfl ?_; refine sC [] rfl ?_; refine sC [] rfl ?_
    rw [show decide (¬ e = 0) = true from decide_eq_true e0]
    refine sA [] rfl ?_; refine ev_loadAggB rfl rfl tabOk rfl rfl ‹_› (by rfl) ?_
    refine ev_call rfl rfl rfl (refOf m w3 (hm.fr0 hF) hl) ?_
    rintro r w4 ⟨t, rfl, htp, hO⟩
    skip
    refine ev_call rfl rfl rfl (refReaches t w4 hO.At (Sm_p htp hl) hO.cap) ?_
    rintro r w5 ⟨⟨B, cb, rfl, hB⟩, f5⟩
    rw [htp, ← he]
    refine sC [] rfl ?_; refine sC [] rfl ?_; refine sC [] rfl ?_
    rw [show decide (e = e) = true from decide_eq_true rfl]
    refine sA [] rfl ?_
    exact ret1 (.inr rfl) rfl rfl ⟨rfl, hF.tr (hO.fr.tr f5)⟩
  rw [hrl e0] at hA ⊢
  obtain ⟨o, hwq, hpo⟩ := hok (by rw [← he]; exact e0)
  have hrise := rise (m := m.p) o m.bs.length (by omega)
  have hn : (reachQ m.p).length = 1 + 2 * m.bs.length := by rw [← rN_all, rN_len _ _ (Nat.le_refl _), hlen]
  have hrq : rN m.p m.bs.length = reachQ m.p := by rw [← rN_all, hlen]
  rw [hrq] at hrise
  obtain ⟨l, hl'⟩ : ∃ l, l = reachQ m.p := ⟨_, rfl⟩
  rw [← hl'] at hA hrise hn ⊢
  refine sC [] rfl ?_; refine sC [] rfl ?_; refine sC [] rfl ?_
  rw [show decide (¬ e = 0) = false from decide_eq_false fun h => h e0]
  refine sA [] rfl ?_
  refine ev_loop (α := Nat) (fun y => [(1, i64 k), (2, i64 a), (3, .pointer (some ⟨p, 0, none⟩)), (7, .slice A l.length ca), (11, i64 y)])
    (fun y w' => (1 ≤ y ∧ y ≤ l.length) ∧ Fr no w3 w') (fun y => l.length - y) 1 ⟨rfl, rfl, rfl, rfl, rfl, trivial⟩ ⟨⟨Nat.le_refl _, by omega⟩, Fr.refl _ _⟩ ?_
  rintro y w4 ⟨hy, h34⟩
  refine sC [] rfl ?_; refine sC [] rfl ?_
  refine ev_condD rfl (fun c1 => ?_) (fun c1 => ?_)
  · have hyl : y < l.length := by omega
    obtain ⟨x1, hx1⟩ : ∃ x, x = l.getD y 0 := ⟨_, rfl⟩
    obtain ⟨x2, hx2⟩ : ∃ x, x = l.getD (y - 1) 0 := ⟨_, rfl⟩
    have hle : x2 ≤ x1 := by rw [hx1, hx2]; have := hrise (y - 1) (by omega); rwa [show y - 1 + 1 = y by omega] at this
    obtain ⟨g, o', rfl, hc1⟩ := (hA.fr0 h34) y (i64 x1) (by rw [hx1]; simp [List.getElem?_eq_getElem hyl])
    have hc2 := (hA.fr0 h34).at (j := y - 1) (u := i64 x2) (by rw [hx2]; simp [List.getElem?_eq_getElem (show y - 1 < l.length by omega)])
    have hc1 : w4.cell? ⟨g, o' + (y : Int).toNat * 1, none⟩ = some (i64 x1) := by rw [show o' + (y : Int).toNat * 1 = o' + y by omega]; exact hc1
    have hc2 : w4.cell? ⟨g, o' + ((y : Int) - 1).toNat * 1, none⟩ = some (i64 x2) := by rw [show o' + ((y : Int) - 1).toNat * 1 = o' + (y - 1) by omega]; exact hc2
    refine sA [] rfl ?_
    refine ev_draw mixed (by kernel_rfl) ?_
    refine qA rfl ?_
    refine q_indexAddr rfl rfl tabOk rfl rfl rfl (by omega) (by omega) ?_
    refine q_load rfl rfl tabOk rfl rfl (fun _ hf => cell_fr (by assumption) hf id) ?_; refine qA rfl ?_; refine q_arith rfl rfl rfl rfl rfl (by simp only [lowK, hiK]; omega) ?_
    refine q_indexAddr rfl rfl tabOk rfl rfl rfl (by omega) (by omega) ?_
    refine q_load rfl rfl tabOk rfl rfl (fun _ hf => cell_fr (by assumption) hf id) ?_; refine qA rfl ?_
    rw [show decide (x1 < x2) = false from decide_eq_false (by omega)]
    refine q_end fun w5 f5 => ?_
    refine sA [] rfl ?_; refine ev_arith rfl rfl rfl rfl rfl (by simp only [lowK, hiK]; omega) ?_; refine sA [] rfl ?_
    refine ev_next (y + 1) (by omega) ⟨⟨by omega, by omega⟩, h34.tr f5⟩ ⟨rfl, rfl, rfl, rfl, by rw [show ((y + 1 : Nat) : Int) = (y : Int) + 1 by omega]; rfl, trivial⟩
  have kp := kp.fr0 h34
  have hF := hF.tr h34
  have hA := hA.fr0 h34
  refine sA [] rfl ?_; refine ev_loadB rfl rfl tabOk rfl rfl ‹_› (by rfl) ?_; refine sA [] rfl ?_; refine ev_arith rfl rfl rfl rfl rfl (by simp only [lowK, hiK]; omega) ?_; refine ev_arith rfl rfl rfl rfl rfl (by simp only [lowK, hiK]; omega) ?_; refine sD [] rfl ?_; refine sD [] rfl ?_
  rw [show decide (¬ (l.length : Int) = 1 + 2 * (m.bs.length : Int)) = false from decide_eq_false fun h => h (by omega)]
  refine sC [] rfl ?_
  by_cases k0 : k < 0
  · rw [show decide (k < 0) = true from decide_eq_true k0]
    refine sA [] rfl ?_; refine ev_loadB rfl rfl tabOk rfl rfl ‹_› (by rfl) ?_; refine sA [] rfl ?_; refine ev_arith rfl rfl rfl rfl rfl (by simp only [lowK, hiK]; omega) ?_; refine ev_arith rfl rfl rfl rfl rfl (by simp only [lowK, hiK]; omega) ?_; refine sA [] rfl ?_
    rw [show decide ((l.length : Int) = 1 + 2 * (m.bs.length : Int)) = true from decide_eq_true (by omega)]
    exact ret1 (.inr rfl) rfl rfl ⟨rfl, hF⟩
  rw [show decide (k < 0) = false from decide_eq_false k0]
  refine sA [] rfl ?_; refine ev_loadB rfl rfl tabOk rfl rfl ‹_› (by rfl) ?_; refine sC [] rfl ?_
  by_cases k1 : (m.bs.length : Int) ≤ k
  · rw [show decide ((m.bs.length : Int) ≤ k) = true from decide_eq_true k1]
    refine sA [] rfl ?_; refine ev_loadB rfl rfl tabOk rfl rfl ‹_› (by rfl) ?_; refine sA [] rfl ?_; refine ev_arith rfl rfl rfl rfl rfl (by simp only [lowK, hiK]; omega) ?_; refine ev_arith rfl rfl rfl rfl rfl (by simp only [lowK, hiK]; omega) ?_; refine sA [] rfl ?_
    rw [show decide ((l.length : Int) = 1 + 2 * (m.bs.length : Int)) = true from decide_eq_true (by omega)]
    exact ret1 (.inr rfl) rfl rfl ⟨rfl, hF⟩
  rw [show decide ((m.bs.length : Int) ≤ k) = false from decide_eq_false k1]
  refine sA [] rfl ?_; refine ev_loadAggB rfl rfl tabOk rfl rfl ‹_› (by rfl) ?_
  refine ev_call rfl rfl rfl (wValid m w4 (hm.fr0 hF) hl.V hbl hcap) ?_
  rintro r w5 ⟨rfl, f5⟩
  have kp := kp.fr0 f5
  have hF := hF.tr f5
  have hA := hA.fr0 f5
  have hcv := fun h => @chM_valid m.p k.toNat a h
  obtain ⟨⟨v1, v2, v3⟩, hv⟩ : ∃ v, v = validQ m.p := ⟨_, rfl⟩
  rw [← hv] at hcv ⊢
  refine sA [] rfl ?_
  refine ev_alloc rfl rfl inf63 (fun q w6 hq kq f6 => ?_)
  refine ev_storeAgg tabOk rfl rfl rfl rfl rfl rfl kq rfl (fun w7 kq f7 => ?_)
  have h57 : Fr no w5 w7 := f6.trans f7 fun z hz e => by have : z = q := e; omega
  have kp := kp.fr0 h57
  have hF := hF.tr h57
  have hA := hA.fr0 h57
  clear kq
  refine sA [] rfl ?_; refine ev_loadAggB rfl rfl tabOk rfl rfl ‹_› (by rfl) ?_
  refine ev_call rfl rfl rfl (refOf m w7 (hm.fr0 hF) hl) ?_
  rintro r w8 ⟨t, rfl, htp, hO8⟩
  have hF := hF.tr hO8.fr
  have hA := hA.fr0 hO8.fr
  have hF8 : Fr no w w8 := hF
  have hA8 : Cs w8 A (l.map i64) := hA
  skip
  refine ev_call rfl rfl rfl (refTo t w8 hO8.At (Sm_p htp hl)) ?_
  rintro r w9 ⟨c, rfl, hcp, hO9⟩
  have hF := hF.tr hO9.fr
  have hA := hA.fr0 hO9.fr
  have hcp : c.p = m.p := by rw [hcp, htp]
  have hcl := Sm_p hcp hl
  skip
  refine ev_alloc rfl rfl inf51 (fun p14 wa hp14 k14 fa => ?_)
  refine ev_storeAgg tabOk rfl rfl rfl rfl rfl rfl k14 rfl (fun wb k14 fb => ?_)
  have h9b : Fr no w9 wb := fa.trans fb fun z hz e => by have : z = p14 := e; omega
  have hF := hF.tr h9b
  have hA := hA.fr0 h9b
  have hbc : c.bs.length = m.bs.length := by have := congrArg (fun m => m.bs.length) hcp; simpa [LM.p] using this
  obtain ⟨kk, rfl⟩ := Int.eq_ofNat_of_zero_le (show 0 ≤ k by omega)
  have hkk : kk < c.bs.length := by omega
  have hP : PS w8 wb c kk p14 c.bs[kk] (pBk c.bs[kk]) := ⟨k14, by rw [put_self hkk]; exact hO9.fr0 h9b, rfl⟩
  have hbp : pBk c.bs[kk] ∈ m.p.bs := by
    have h1 : c.p.bs = m.p.bs := by rw [hcp]
    rw [← h1]; exact List.mem_map_of_mem (List.getElem_mem hkk)
  obtain ⟨bo1, bo2, bo3, bo4⟩ := block_o (hpo.bs _ hbp)
  have bo3 : 0 ≤ c.bs[kk].os ∧ c.bs[kk].os ≤ 31 := bo3
  have bo4 : 0 ≤ c.bs[kk].dns ∧ c.bs[kk].dns ≤ 31 := bo4
  have hpg : ∀ (b : Bk Rw) (q : Bk (List Int8)) (w' : World), PS w8 w' c kk p14 b q → True := fun _ _ _ _ => trivial
  have hp14g : ∀ g, (Value.slice c.bA c.bs.length c.bc).ownBlock = some g → p14 ≠ g := fun g hg e => by have := hO9.blk.lt hg; omega
  have hgl2 : ∀ (b : Bk Rw) (w' : World), PS w8 w' c kk p14 b (pBk b) → ∀ {r : Rw}, r ∈ (c.put kk b).all → ∀ g2, r.v.ownBlock = some g2 → p14 = g2 → False := fun b w' h r hr g2 hg e => blk_own_ne h.k (h.own.rows r hr).1 hg (by decide) e
  have hput := fun (b : Bk Rw) (f : Bk (List Int8) → Bk (List Int8)) (h : pBk b = f (pBk c.bs[kk])) => put_p hkk h
  obtain ⟨bk, hbk⟩ : ∃ b, b = c.bs[kk] := ⟨_, rfl⟩
  rw [← hbk] at hP bo3 bo4 bo1 bo2
  clear hpg
  obtain ⟨g, hbA, hbg, hcells⟩ := hP.cells hkk
  have hk14 := hP.k
  have hgp := hp14g g hbg
  have hOb : Own wb 60 17 (.slice c.bA c.bs.length c.bc) c.bs.length ((c.put kk bk).bs.flatMap bkC) := by
    have := hP.own.blk
    rwa [put_len hkk] at this
  have hcos : wb.cell? ⟨g, 0 + kk * 17 + 9, none⟩ = some (i64 bk.os) := hcells.at (j := 9) rfl
  have hcds : wb.cell? ⟨g, 0 + kk * 17 + 11 + 5, none⟩ = some (i64 bk.dns) := hcells.at (j := 16) rfl
  refine sA [] rfl ?_; refine ev_loadB rfl rfl tabOk rfl rfl ‹_› (by rfl) ?_; refine sA [] rfl ?_
  refine ev_indexAddr rfl rfl tabOk (congrArg (fun z => some (Value.slice z c.bs.length c.bc)) hbA) rfl rfl (by omega) (by omega) ?_
  refine sA [] rfl ?_
  refine ev_join1 (α := Unit) (fun _ => [(1, i64 kk), (2, i64 a), (3, .pointer (some ⟨p, 0, none⟩)), (7, .slice A l.length ca), (13, i64 v3), (14, .pointer (some ⟨p14, 0, none⟩)), (15, .pointer (some ⟨g, 0 + kk * 17, none⟩))])
    (fun _ w' => PS w8 w' c kk p14 { bk with os := upS bk.os, dns := upS bk.dns } (pBk { bk with os := upS bk.os, dns := upS bk.dns })) ?_ ?_
  · refine mix_in mixed (fun u0 d0 => ?_)
    refine mA rfl (by kernel_rfl) (by kernel_rfl) ?_
    refine mix2 rfl rfl rfl ?_ ?_
    · refine ev_load rfl rfl tabOk rfl rfl (cell_fr hcos d0 id) ?_
      refine mix_op ?_
      refine m_arith 6 rfl rfl rfl (by kernel_rfl) (by kernel_rfl) rfl rfl rfl rfl rfl (by simp only [lowK, hiK]; omega) ?_
      refine mA rfl (by kernel_rfl) (by kernel_rfl) ?_
      refine mix1 rfl rfl ?_
      refine ev_load rfl rfl tabOk rfl rfl (cell_fr hcds d0 id) ?_
      refine mix_op ?_
      refine m_arith 13 rfl rfl rfl (by kernel_rfl) (by kernel_rfl) rfl rfl rfl rfl rfl (by simp only [lowK, hiK]; omega) ?_
      refine mA rfl (by kernel_rfl) (by kernel_rfl) ?_
      refine mix1 rfl rfl ?_
      refine ev_storeFlat tabOk rfl rfl rfl rfl rfl rfl (hOb.fr0 d0) hbg (by show 0 + kk * 17 + 9 < c.bs.length * 17; omega) (fun u1 hO1 d1 => ?_)
      have hP1 : PS w8 u1 c kk p14 { bk with os := upS bk.os } (pBk { bk with os := upS bk.os }) := (hP.fr0 d0).set hkk (j := 9) (by omega) rfl rfl rfl hbg hgp d1 (by rw [show kk * 17 + 9 = 0 + kk * 17 + 9 by omega]; exact hO1)
      refine mix_op ?_
      try refine mA rfl (by kernel_rfl) (by kernel_rfl) ?_
      refine mix1 rfl rfl ?_
      refine ev_storeFlat tabOk rfl rfl rfl rfl rfl rfl (by have := hP1.own.blk; rwa [put_len hkk] at this) hbg (by show 0 + kk * 17 + 11 + 5 < c.bs.length * 17; omega) (fun u2 hO2 d2 => ?_)
      have hP2 : PS w8 u2 c kk p14 { bk with os := upS bk.os, dns := upS bk.dns } (pBk { bk with os := upS bk.os, dns := upS bk.dns }) := hP1.set hkk (j := 16) (by omega) rfl rfl rfl hbg hgp d2 (by rw [show kk * 17 + 16 = 0 + kk * 17 + 11 + 5 by omega]; exact hO2)
      refine mix_op ?_
      refine mix_out rfl ?_
      skip
      exact ev_out () hP2 ⟨rfl, rfl, rfl, rfl, rfl, rfl, rfl, trivial⟩
    · refine ev_load rfl rfl tabOk rfl rfl (cell_fr hcds d0 id) ?_
      refine mix_op ?_
      refine m_arith 13 rfl rfl rfl (by kernel_rfl) (by kernel_rfl) rfl rfl rfl rfl rfl (by simp only [lowK, hiK]; omega) ?_
      try refine mA rfl (by kernel_rfl) (by kernel_rfl) ?_
      refine mix1 rfl rfl ?_
      refine ev_load rfl rfl tabOk rfl rfl (cell_fr hcos d0 id) ?_
      refine mix_op ?_
      refine m_arith 6 rfl rfl rfl (by kernel_rfl) (by kernel_rfl) rfl rfl rfl rfl rfl (by simp only [lowK, hiK]; omega) ?_
      refine mA rfl (by kernel_rfl) (by kernel_rfl) ?_
      refine mix1 rfl rfl ?_
      refine ev_storeFlat tabOk rfl rfl rfl rfl rfl rfl (hOb.fr0 d0) hbg (by show 0 + kk * 17 + 9 < c.bs.length * 17; omega) (fun u1 hO1 d1 => ?_)
      have hP1 : PS w8 u1 c kk p14 { bk with os := upS bk.os } (pBk { bk with os := upS bk.os }) := (hP.fr0 d0).set hkk (j := 9) (by omega) rfl rfl rfl hbg hgp d1 (by rw [show kk * 17 + 9 = 0 + kk * 17 + 9 by omega]; exact hO1)
      refine mix_op ?_
      try refine mA rfl (by kernel_rfl) (by kernel_rfl) ?_
      refine mix1 rfl rfl ?_
      refine ev_storeFlat tabOk rfl rfl rfl rfl rfl rfl (by have := hP1.own.blk; rwa [put_len hkk] at this) hbg (by show 0 + kk * 17 + 11 + 5 < c.bs.length * 17; omega) (fun u2 hO2 d2 => ?_)
      have hP2 : PS w8 u2 c kk p14 { bk with os := upS bk.os, dns := upS bk.dns } (pBk { bk with os := upS bk.os, dns := upS bk.dns }) := hP1.set hkk (j := 16) (by omega) rfl rfl rfl hbg hgp d2 (by rw [show kk * 17 + 16 = 0 + kk * 17 + 11 + 5 by omega]; exact hO2)
      refine mix_op ?_
      refine mix_out rfl ?_
      skip
      exact ev_out () hP2 ⟨rfl, rfl, rfl, rfl, rfl, rfl, rfl, trivial⟩
  clear hP hk14 hOb hcos hcds hcells
  rintro ⟨⟩ u1 hP
  obtain ⟨b1, hb1⟩ : ∃ b1 : Bk Rw, b1 = { bk with os := upS bk.os, dns := upS bk.dns } := ⟨_, rfl⟩
  rw [← hb1] at hP
  obtain ⟨_, hA2, _, hcells⟩ := hP.cells hkk
  rw [hbA] at hA2; cases hA2
  have hk14 := hP.k
  have hco : u1.cell? ⟨g, 0 + kk * 17 + 4, none⟩ = some b1.o.v := hcells.at (j := 4) rfl
  have hol : b1.o.xs.length ≤ 1000000000 := by rw [hb1]; exact hcl.bs c.bs[kk] (List.getElem_mem hkk) _ (by rw [← hbk]; simp)
  have hdl : b1.dn.xs.length ≤ 1000000000 := by rw [hb1]; exact hcl.bs c.bs[kk] (List.getElem_mem hkk) _ (by rw [← hbk]; simp)
  refine sC [] rfl ?_; refine sD [] rfl ?_; refine sD [] rfl ?_
  refine ev_join2 (α := Bk Rw) (fun _ => [(1, i64 kk), (2, i64 a), (3, .pointer (some ⟨p, 0, none⟩)), (7, .slice A l.length ca), (13, i64 v3), (14, .pointer (some ⟨p14, 0, none⟩)), (15, .pointer (some ⟨g, 0 + kk * 17, none⟩))])
    (fun b w' => PS w8 w' c kk p14 b (pBk b) ∧ pBk b = { pBk b1 with o := hvAt b1.o.xs a } ∧ b.dn = b1.dn) ?_ ?_
  · by_cases a0 : 0 ≤ a
    rotate_left
    · rw [show decide (0 ≤ a) = false from decide_eq_false a0]
      refine sA [] rfl ?_
      exact ev_out b1 ⟨by rw [hP.eq] at hP; exact hP, by unfold hvAt; rw [if_neg (fun h => a0 h.1)]; exact ⟨rfl, rfl⟩⟩ ⟨rfl, rfl, rfl, rfl, rfl, rfl, rfl, trivial⟩
    rw [show decide (0 ≤ a) = true from decide_eq_true a0]
    refine sA [] rfl ?_; refine ev_load rfl rfl tabOk rfl rfl ‹_› ?_; refine sC [] rfl ?_
    by_cases a1 : a < (b1.o.xs.length : Int)
    rotate_left
    · rw [show decide (a < (b1.o.xs.length : Int)) = false from decide_eq_false a1]
      refine sA [] rfl ?_
      exact ev_out b1 ⟨by rw [hP.eq] at hP; exact hP, by unfold hvAt; rw [if_neg (fun h => a1 h.2)]; exact ⟨rfl, rfl⟩⟩ ⟨rfl, rfl, rfl, rfl, rfl, rfl, rfl, trivial⟩
    rw [show decide (a < (b1.o.xs.length : Int)) = true from decide_eq_true a1]
    have hai : a.toNat < b1.o.xs.length := by omega
    have hmem : b1.o ∈ (c.put kk b1).all := mem_all2 (b := b1) (by have := List.getElem_mem (show kk < (c.put kk b1).bs.length by rw [put_len hkk]; exact hkk); rwa [put_at hkk] at this) (by simp)
    have hOo := hP.own.rows _ hmem
    obtain ⟨g2, hA3, hg2⟩ := own_at hOo.1 hai
    have hg14 : p14 ≠ g2 := fun e => hgl2 b1 _ hP hmem g2 hg2 e
    obtain ⟨x, hx⟩ : ∃ x, x = b1.o.xs[a.toNat] := ⟨_, rfl⟩
    have hxb := i8_bd' x
    have hxh := hvN_abs x
    have hxt := i8_bd' (hvN x)
    rw [hxh.1] at hxt
    obtain ⟨g3, o3, e3, hcx⟩ := hOo.At a.toNat (i8v x) (by rw [hx]; simp [List.getElem?_eq_getElem hai])
    have hcx : u1.cell? ⟨g2, 0 + a.toNat * 1, none⟩ = some (.int .i8 x.toInt) := by rw [hA3] at e3; cases e3; rw [Nat.mul_one]; exact hcx
    refine sA [] rfl ?_; refine ev_load rfl rfl tabOk rfl rfl ‹_› ?_; refine sA [] rfl ?_
    refine ev_indexAddr rfl rfl tabOk (congrArg (fun z => some (Value.slice z b1.o.xs.length b1.o.c)) hA3) rfl rfl (by omega) (by omega) ?_
    refine ev_load rfl rfl tabOk rfl rfl hcx ?_
    refine ev_quoT rfl rfl rfl rfl (by omega) (by simp only [lowK, hiK]; omega) ?_
    refine ev_indexAddr rfl rfl tabOk (congrArg (fun z => some (Value.slice z b1.o.xs.length b1.o.c)) hA3) rfl rfl (by omega) (by omega) ?_
    refine ev_storeRow tabOk rfl rfl rfl rfl rfl rfl hOo.1 hg2 (by omega) (fun y1 hO1 d1 => ?_)
    obtain ⟨r', hr'⟩ : ∃ r' : Rw, r' = ⟨b1.o.A, b1.o.c, b1.o.xs.set a.toNat (hvN x)⟩ := ⟨_, rfl⟩
    have hrv : r'.v = b1.o.v := by rw [hr']; simp
    have hrl : r'.xs.length = b1.o.xs.length := by rw [hr']; simp
    have hP1 : PS w8 y1 c kk p14 { b1 with o := r' } (pBk { b1 with o := r' }) := hP.row hkk (b' := { b1 with o := r' }) (X := [b1.g1, b1.g2, b1.q, b1.k, b1.v]) (Y := [b1.ga, b1.up, b1.dn]) (r := b1.o) (r' := r') rfl rfl hrv (by unfold bkC; rw [hrv]) rfl hg2 hg14 d1 (by
      rw [hrv, hrl, hr', List.map_set]
      have : Value.int .i8 (x.toInt.tdiv 2) = i8v (hvN x) := congrArg (Value.int .i8) hxh.1.symm
      rw [← this]
      rw [show a.toNat = 0 + a.toNat * 1 by omega]; exact hO1)
    refine sA [] rfl ?_
    exact ev_out { b1 with o := r' } ⟨hP1, by unfold hvAt; rw [if_pos ⟨a0, a1⟩]; refine ⟨?_, rfl⟩; rw [List.getD_eq_getElem?_getD, List.getElem?_eq_getElem hai, ← hx, hr']; rfl⟩ ⟨rfl, rfl, rfl, rfl, rfl, rfl, rfl, trivial⟩
  clear hP hk14 hco hcells
  rintro b2 u1 ⟨hP, hq2, hd2⟩
  obtain ⟨_, hA2, _, hcells⟩ := hP.cells hkk
  rw [hbA] at hA2; cases hA2
  have hk14 := hP.k
  have hco : u1.cell? ⟨g, 0 + kk * 17 + 11 + 2, none⟩ = some b2.dn.v := hcells.at (j := 13) rfl
  have hol : b2.dn.xs.length ≤ 1000000000 := by rw [hd2]; exact hdl
  refine sC [] rfl ?_; refine sD [] rfl ?_; refine sD [] rfl ?_
  refine ev_join2 (α := Bk Rw) (fun _ => [(1, i64 kk), (2, i64 a), (3, .pointer (some ⟨p, 0, none⟩)), (7, .slice A l.length ca), (13, i64 v3), (14, .pointer (some ⟨p14, 0, none⟩)), (15, .pointer (some ⟨g, 0 + kk * 17, none⟩))])
    (fun b w' => PS w8 w' c kk p14 b (pBk b) ∧ pBk b = { pBk b2 with dn := hvAt b2.dn.xs a }) ?_ ?_
  · by_cases a0 : 0 ≤ a
    rotate_left
    · rw [show decide (0 ≤ a) = false from decide_eq_false a0]
      refine sA [] rfl ?_
      exact ev_out b2 ⟨by rw [hP.eq] at hP; exact hP, by unfold hvAt; rw [if_neg (fun h => a0 h.1)]; rfl⟩ ⟨rfl, rfl, rfl, rfl, rfl, rfl, rfl, trivial⟩
    rw [show decide (0 ≤ a) = true from decide_eq_true a0]
    refine sA [] rfl ?_; refine ev_load rfl rfl tabOk rfl rfl ‹_› ?_; refine sC [] rfl ?_
    by_cases a1 : a < (b2.dn.xs.length : Int)
    rotate_left
    · rw [show decide (a < (b2.dn.xs.length : Int)) = false from decide_eq_false a1]
      refine sA [] rfl ?_
      exact ev_out b2 ⟨by rw [hP.eq] at hP; exact hP, by unfold hvAt; rw [if_neg (fun h => a1 h.2)]; rfl⟩ ⟨rfl, rfl, rfl, rfl, rfl, rfl, rfl, trivial⟩
    rw [show decide (a < (b2.dn.xs.length : Int)) = true from decide_eq_true a1]
    have hai : a.toNat < b2.dn.xs.length := by omega
    have hmem : b2.dn ∈ (c.put kk b2).all := mem_all2 (b := b2) (by have := List.getElem_mem (show kk < (c.put kk b2).bs.length by rw [put_len hkk]; exact hkk); rwa [put_at hkk] at this) (by simp)
    have hOo := hP.own.rows _ hmem
    obtain ⟨g2, hA3, hg2⟩ := own_at hOo.1 hai
    have hg14 : p14 ≠ g2 := fun e => hgl2 b2 _ hP hmem g2 hg2 e
    obtain ⟨x, hx⟩ : ∃ x, x = b2.dn.xs[a.toNat] := ⟨_, rfl⟩
    have hxb := i8_bd' x
    have hxh := hvN_abs x
    have hxt := i8_bd' (hvN x)
    rw [hxh.1] at hxt
    obtain ⟨g3, o3, e3, hcx⟩ := hOo.At a.toNat (i8v x) (by rw [hx]; simp [List.getElem?_eq_getElem hai])
    have hcx : u1.cell? ⟨g2, 0 + a.toNat * 1, none⟩ = some (.int .i8 x.toInt) := by rw [hA3] at e3; cases e3; rw [Nat.mul_one]; exact hcx
    refine sA [] rfl ?_; refine ev_load rfl rfl tabOk rfl rfl ‹_› ?_; refine sA [] rfl ?_
    refine ev_indexAddr rfl rfl tabOk (congrArg (fun z => some (Value.slice z b2.dn.xs.length b2.dn.c)) hA3) rfl rfl (by omega) (by omega) ?_
    refine ev_load rfl rfl tabOk rfl rfl hcx ?_
    refine ev_quoT rfl rfl rfl rfl (by omega) (by simp only [lowK, hiK]; omega) ?_
    refine ev_indexAddr rfl rfl tabOk (congrArg (fun z => some (Value.slice z b2.dn.xs.length b2.dn.c)) hA3) rfl rfl (by omega) (by omega) ?_
    refine ev_storeRow tabOk rfl rfl rfl rfl rfl rfl hOo.1 hg2 (by omega) (fun y1 hO1 d1 => ?_)
    obtain ⟨r', hr'⟩ : ∃ r' : Rw, r' = ⟨b2.dn.A, b2.dn.c, b2.dn.xs.set a.toNat (hvN x)⟩ := ⟨_, rfl⟩
    have hrv : r'.v = b2.dn.v := by rw [hr']; simp
    have hrl : r'.xs.length = b2.dn.xs.length := by rw [hr']; simp
    have hP1 : PS w8 y1 c kk p14 { b2 with dn := r' } (pBk { b2 with dn := r' }) := hP.row hkk (b' := { b2 with dn := r' }) (X := [b2.g1, b2.g2, b2.q, b2.k, b2.v, b2.o, b2.ga, b2.up]) (Y := []) (r := b2.dn) (r' := r') rfl rfl hrv (by unfold bkC; rw [hrv]) rfl hg2 hg14 d1 (by
      rw [hrv, hrl, hr', List.map_set]
      have : Value.int .i8 (x.toInt.tdiv 2) = i8v (hvN x) := congrArg (Value.int .i8) hxh.1.symm
      rw [← this]
      rw [show a.toNat = 0 + a.toNat * 1 by omega]; exact hO1)
    refine sA [] rfl ?_
    exact ev_out { b2 with dn := r' } ⟨hP1, by unfold hvAt; rw [if_pos ⟨a0, a1⟩]; rw [List.getD_eq_getElem?_getD, List.getElem?_eq_getElem hai, ← hx, hr']; rfl⟩ ⟨rfl, rfl, rfl, rfl, rfl, rfl, rfl, trivial⟩
  clear hP hk14 hco hcells
  rintro b3 u1 ⟨hP, hq3⟩
  have hq : pBk b3 = chB (fun l => hvAt l a) (pBk c.bs[kk]) := by
    rw [hq3, hq2, hd2, hb1, hbk]; rfl
  have hc3 : (c.put kk b3).p = chM m.p kk a := by
    rw [put_p hkk (f := chB fun l => hvAt l a) hq, hcp]; rfl
  have hs3 : (c.put kk b3).Sm := by
    have hb3 : b3.Sm := fun r hr => by
      have z := hcl.bs c.bs[kk] (List.getElem_mem hkk)
      have e : ∀ f : Bk (List Int8) → List Int8, f (pBk b3) = f (chB (fun l => hvAt l a) (pBk c.bs[kk])) := fun f => by rw [hq]
      simp only [List.mem_cons, List.not_mem_nil, or_false] at hr
      rcases hr with rfl | rfl | rfl | rfl | rfl | rfl | rfl | rfl | rfl
      · rw [show b3.g1.xs = c.bs[kk].g1.xs from e Bk.g1]; exact z _ (by simp)
      · rw [show b3.g2.xs = c.bs[kk].g2.xs from e Bk.g2]; exact z _ (by simp)
      · rw [show b3.q.xs = c.bs[kk].q.xs from e Bk.q]; exact z _ (by simp)
      · rw [show b3.k.xs = c.bs[kk].k.xs from e Bk.k]; exact z _ (by simp)
      · rw [show b3.v.xs = c.bs[kk].v.xs from e Bk.v]; exact z _ (by simp)
      · rw [show b3.o.xs = hvAt c.bs[kk].o.xs a from e Bk.o, hvAt_len]; exact z _ (by simp)
      · rw [show b3.ga.xs = c.bs[kk].ga.xs from e Bk.ga]; exact z _ (by simp)
      · rw [show b3.up.xs = c.bs[kk].up.xs from e Bk.up]; exact z _ (by simp)
      · rw [show b3.dn.xs = hvAt c.bs[kk].dn.xs a from e Bk.dn, hvAt_len]; exact z _ (by simp)
    refine ⟨hcl.rows, fun b hb => ?_, by rw [put_len hkk]; exact hcl.bl, hcl.V⟩
    rcases List.mem_append.1 hb with hb | hb
    · rcases List.mem_append.1 hb with hb | hb
      · exact hcl.bs b (List.mem_of_mem_take hb)
      · rw [List.mem_singleton.1 hb]; exact hb3
    · exact hcl.bs b (List.mem_of_mem_drop hb)
  obtain ⟨c3, hc3e⟩ : ∃ c3, c3 = c.put kk b3 := ⟨_, rfl⟩
  have k14 : Blk u1 p14 (lmC c3) 51 := by rw [hc3e, put_lmC hkk]; exact hP.k
  have hO3 : OwnS w8 u1 c3 := by rw [hc3e]; exact hP.own
  rw [← hc3e] at hc3 hs3
  have hF := hF8.tr hO3.fr
  have hA := hA8.fr0 hO3.fr
  have hall : (allQ (chM m.p kk a)).2.2 = 0 := hall (by rw [← he]; exact e0)
  have hcv : v3 = 0 → (validQ (chM m.p kk a)).2.2 = 0 := hcv
  have heach := chM_each kk a hpo m.bs.length (by omega)
  have hrl3 : reachL (chM m.p kk a) = reachQ (chM m.p kk a) := if_pos hall
  have hl3 : (chM m.p kk a).bs.length = m.bs.length := by rw [chM_len, hlen]
  have hn3 : (reachQ (chM m.p kk a)).length = l.length := by rw [hn, ← rN_all, rN_len _ _ (Nat.le_refl _), hl3]
  have hr3 : rN (chM m.p kk a) m.bs.length = reachQ (chM m.p kk a) := by rw [← rN_all, hl3]
  rw [hrq, hr3, ← hl'] at heach
  have hat3 := hO3.At
  have hcap3 := hO3.cap
  clear hP
  refine sA [] rfl ?_; refine ev_loadAggB rfl rfl tabOk rfl rfl ‹_› (by rfl) ?_
  refine ev_call rfl rfl rfl (wReaches c3 u1 hat3 hs3.V hs3.bl hcap3) ?_
  rw [hc3, hrl3, hall]
  obtain ⟨l3, hl3'⟩ : ∃ l3, l3 = reachQ (chM m.p kk a) := ⟨_, rfl⟩
  rw [← hl3'] at hn3 heach ⊢
  rintro r u2 ⟨⟨B, cb, rfl, hB⟩, d2⟩
  rw [hn3]
  have k14 := k14.fr0 d2
  have hF := hF.tr d2
  have hA := hA.fr0 d2
  have hat3 := hat3.fr0 d2
  refine sB [] rfl ?_; refine sD [] rfl ?_; refine sD [] rfl ?_
  rw [show decide (¬ (l.length : Int) = l.length) = false from neq_same _]
  refine sA [] rfl ?_
  refine ev_loop (α := Nat) (fun y => [(13, i64 v3), (14, .pointer (some ⟨p14, 0, none⟩)), (16, .slice B l.length cb), (7, .slice A l.length ca), (175, i64 l.length), (176, i64 y)])
    (fun y w' => y ≤ l.length ∧ Fr no u2 w') (fun y => l.length - y) 0 ⟨rfl, rfl, rfl, rfl, rfl, rfl, trivial⟩ ⟨Nat.zero_le _, Fr.refl _ _⟩ ?_
  rintro y u3 ⟨hy, d3⟩
  refine sC [] rfl ?_; refine sD [] rfl ?_
  refine ev_condD rfl (fun c1 => ?_) (fun c1 => ?_)
  · have hyl : y < l.length := by omega
    obtain ⟨x1, hx1⟩ : ∃ x, x = l.getD y 0 := ⟨_, rfl⟩
    obtain ⟨x2, hx2⟩ : ∃ x, x = l3.getD y 0 := ⟨_, rfl⟩
    have hle : x2 ≤ x1 := by rw [hx1, hx2]; exact heach y
    obtain ⟨g4, o4, rfl, hc1⟩ := (hA.fr0 d3) y (i64 x1) (by rw [hx1]; simp [List.getElem?_eq_getElem hyl])
    obtain ⟨g5, o5, rfl, hc2⟩ := (hB.fr0 d3) y (i64 x2) (by rw [hx2]; simp [List.getElem?_eq_getElem (show y < l3.length by omega)])
    have hc1 : u3.cell? ⟨g4, o4 + (y : Int).toNat * 1, none⟩ = some (i64 x1) := by rw [show o4 + (y : Int).toNat * 1 = o4 + y by omega]; exact hc1
    have hc2 : u3.cell? ⟨g5, o5 + (y : Int).toNat * 1, none⟩ = some (i64 x2) := by rw [show o5 + (y : Int).toNat * 1 = o5 + y by omega]; exact hc2
    refine sA [] rfl ?_
    refine ev_draw mixed (by kernel_rfl) ?_
    refine qA rfl ?_
    refine q_indexAddr rfl rfl tabOk rfl rfl rfl (by omega) (by omega) ?_
    refine q_load rfl rfl tabOk rfl rfl (fun _ hf => cell_fr (by assumption) hf id) ?_; refine qA rfl ?_
    refine q_indexAddr rfl rfl tabOk rfl rfl rfl (by omega) (by omega) ?_
    refine q_load rfl rfl tabOk rfl rfl (fun _ hf => cell_fr (by assumption) hf id) ?_; refine qA rfl ?_
    rw [show decide (x1 < x2) = false from decide_eq_false (by omega)]
    refine q_end fun w5 f5 => ?_
    refine sA [] rfl ?_; refine ev_arith rfl rfl rfl rfl rfl (by simp only [lowK, hiK]; omega) ?_; refine sA [] rfl ?_
    refine ev_next (y + 1) (by omega) ⟨by omega, d3.tr f5⟩ ⟨rfl, rfl, rfl, rfl, rfl, by rw [show ((y + 1 : Nat) : Int) = (y : Int) + 1 by omega]; rfl, trivial⟩
  have k14 := k14.fr0 d3
  have hF := hF.tr d3
  have hat3 := hat3.fr0 d3
  refine sA [] rfl ?_; refine ev_loadAggB rfl rfl tabOk rfl rfl ‹_› (by rfl) ?_
  refine ev_call rfl rfl rfl (wValid c3 u3 hat3 hs3.V hs3.bl hcap3) ?_
  rw [hc3]
  rintro r u4 ⟨rfl, d4⟩
  obtain ⟨⟨z1, z2, z3⟩, hz⟩ : ∃ v, v = validQ (chM m.p kk a) := ⟨_, rfl⟩
  rw [← hz] at hcv ⊢
  have hcv : v3 = 0 → z3 = 0 := hcv
  refine sA [] rfl ?_
  refine ev_alloc rfl rfl inf63 (fun q5 u5 hq5 kq5 d5 => ?_)
  refine ev_storeAgg tabOk rfl rfl rfl rfl rfl rfl kq5 rfl (fun u6 kq6 d6 => ?_)
  have h46 : Fr no u4 u6 := d5.trans d6 fun z hz e => by have : z = q5 := e; omega
  have hF := hF.tr (d4.tr h46)
  refine sC [] rfl ?_; refine sD [] rfl ?_; refine sD [] rfl ?_; refine sD [] rfl ?_
  by_cases w0 : v3 = 0
  · rw [show decide (¬ v3 = 0) = false from decide_eq_false fun h => h w0]
    refine sA [] rfl ?_
    rw [show decide ((z1, z2, z3).2.2 = 0) = true from decide_eq_true (hcv w0)]
    skip
    exact ret1 (.inr rfl) rfl rfl ⟨rfl, hF⟩
  · rw [show decide (¬ v3 = 0) = true from decide_eq_true w0]
    refine sA [] rfl ?_
    exact ret1 (.inr rfl) rfl rfl ⟨rfl, hF⟩
end Go.Wk.YtfgllkflnkolhaaDoor
