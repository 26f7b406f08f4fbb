/-
  Taken for this seat out of ShYm.
-/
import Derived.Test.YtdelgnflcfhhkaaGreatDoorPShYl
set_option linter.unusedVariables false
namespace Go.Wk.YtdelgnflcfhhkaaGreatDoor
open Go Go.Wk Go.Proofs
/-- what Sample makes, of whatever shape -/
def smpQ (s : Shp) (seed : Int) : Md := if okS s then sampleP s seed else zM.p
theorem zB_own (w0 w : World) : OR w0 w zB := ⟨Own.nil _ _ _, fun g hg => by cases hg⟩
theorem zM_own {TM TB : TypeId} {w w' : World} (hf : Fr no w w') : OwnM TM TB w w' zM :=
  have ha : ∀ r ∈ zM.all, r = zB := fun r hr => by
    have hr : r ∈ [zB, zB, zB, zB, zB, zB] := hr
    simpa using hr
  ⟨fun r hr => by rw [ha r hr]; exact zB_own _ _, List.Pairwise.imp_of_mem (R := fun _ _ => True) (fun hr _ _ g hg => by rw [ha _ hr] at hg; cases hg) (List.pairwise_of_forall (fun _ _ => trivial)), Own.nil _ _ _, Own.nil _ _ _, Own.nil _ _ _,
   (fun g hg => by rcases hg with z | z | z <;> cases z), (fun g hg => by cases hg), (fun g hg => by cases hg), hf⟩
theorem zM_Sm : zM.Sm := ⟨fun r hr => by
    have hr : r ∈ [zB, zB, zB, zB, zB, zB] := hr
    have : r = zB := by simpa using hr
    rw [this]; exact Nat.zero_le _, (fun b hb => by cases hb), Nat.zero_le _, ⟨Nat.zero_le _, (fun t ht => by cases ht), Nat.zero_le _⟩⟩
theorem refSampleA (s : Shp) (seed : Int) (w : World) (hseed : -9223372036854775808 ≤ seed ∧ seed ≤ 9223372036854775807) :
    CallsF Tryz.prog 66 [shpV s, i64 seed] w fun r w' => ∃ m : LM, r = .tuple #[lmV m, i64 (chkS s)] ∧ m.p = smpQ s seed ∧ m.At w' ∧ Fr no w w' := by
  by_cases o : okS s
  · rw [chk_y o, show smpQ s seed = sampleP s seed from if_pos o]
    exact refSample s seed w o hseed
  · rw [chk_n o, show smpQ s seed = zM.p from if_neg o]
    exact (refSampleNo s seed w o).mono fun v w' ⟨h1, h2⟩ => ⟨zM, h1, rfl, (zM_own (TM := 134) (TB := 86) h2).At, h2⟩
theorem smp_Sm {m : LM} {s : Shp} {seed : Int} (h : m.p = smpQ s seed) : m.Sm := by
  by_cases o : okS s
  · rw [show smpQ s seed = sampleP s seed from if_pos o] at h
    exact Sm_sample h o
  · rw [show smpQ s seed = zM.p from if_neg o] at h
    exact Sm_p h zM_Sm
/-- a model that is written into -/
structure WS (wb w' : World) (m : LM) (p : Nat) : Prop where
  fr : Fr no wb w'
  k : Blk w' p (lmC m) 47
  own : ∀ r ∈ m.all, ∃ cs, Own w' 177 1 r.v r.xs.length cs
  g2 : ∀ b ∈ m.bs, b.g2.At w'
  bl : Cs w' m.bA (m.bs.flatMap bkC)
theorem pair_all {α : Type} {R : α → α → Prop} (hs : ∀ a b, R a b → R b a) : ∀ {l : List α}, l.Pairwise R → (∀ x ∈ l, R x x) → ∀ x ∈ l, ∀ y ∈ l, R x y
  | [], _, _, x, hx, _, _ => by cases hx
  | a :: l, h, hr, x, hx, y, hy => by
    have h' := List.pairwise_cons.1 h
    rcases List.mem_cons.1 hx with e1 | h1
    · rcases List.mem_cons.1 hy with e2 | h2
      · rw [e1, e2]; exact hr _ (by simp)
      · rw [e1]; exact h'.1 y h2
    · rcases List.mem_cons.1 hy with e2 | h2
      · rw [e2]; exact hs _ _ (h'.1 x h1)
      · exact pair_all hs h'.2 (fun z hz => hr z (List.mem_cons_of_mem _ hz)) x h1 y h2
theorem ap_eq {L : List Rw} (h : L.Pairwise apR) {r r' : Rw} (hr : r ∈ L) (hr' : r' ∈ L) {g : Nat} (h1 : r.v.ownBlock = some g) (h2 : r'.v.ownBlock = some g) : r = r' := by
  have key := pair_all (R := fun a b : Rw => a = b ∨ apR a b) (fun a b h => h.elim (fun e => .inl e.symm) (fun e => .inr (apR_symm e))) (h.imp fun z => .inr z) (fun x _ => .inl rfl) r hr r' hr'
  rcases key with e | e
  · exact e
  · exact absurd h2 (e g h1)
/-- what a store into a row must keep off -/
structure Bare (m : LM) (p g : Nat) : Prop where
  p : p ≠ g
  b : (Value.slice m.bA m.bs.length m.bc).ownBlock ≠ some g
  g2 : ∀ b ∈ m.bs, b.g2.v.ownBlock ≠ some g
theorem WS.store {wb w' w2 : World} {m : LM} {p g : Nat} {r : Rw} {cs : List Value} (h : WS wb w' m p) {w0 w1 : World} (ho : OwnS w0 w1 m) (hbk : Own w1 73 17 (.slice m.bA m.bs.length m.bc) m.bs.length (m.bs.flatMap bkC)) (hr : r ∈ m.all) (hg : r.v.ownBlock = some g) (hn : Bare m p g) (hw : wb.heap.size ≤ g)
    (hf : Fr (fun c => c = g) w' w2) (hO : Own w2 177 1 r.v r.xs.length cs) : WS wb w2 m p :=
  ⟨h.fr.trans hf fun z hz e => by have : z = g := e; omega, h.k.fr hf (fun e => hn.p e), fun r' hr' => by
    by_cases e : r'.v.ownBlock = some g
    · have : r' = r := ap_eq ho.ap hr' hr e hg
      rw [this]; exact ⟨cs, hO⟩
    · obtain ⟨c, hc⟩ := h.own r' hr'
      exact ⟨c, hc.fr hf (fun z hz y => e (by have : z = g := y; rw [← this]; exact hz))⟩,
   fun b hb => CsOff.keep (p := g) (CsOff.own (ho.rows _ (mem_all2 hb (show b.g2 ∈ b.rows by simp))).1 fun z hz e => hn.g2 b hb (by rw [← e]; exact hz)) (h.g2 b hb) hf,
   CsOff.keep (p := g) (CsOff.own hbk fun z hz e => hn.b (by rw [← e]; exact hz)) h.bl hf⟩
theorem bare_of {m : LM} {w0 w1 : World} (ho : OwnS w0 w1 m) {p g : Nat} (hp : w1.heap.size ≤ p) {r : Rw} (hr : r ∈ [m.gain, m.cos, m.sin, m.bend, m.e]) (hg : r.v.ownBlock = some g) : Bare m p g := by
  have hra : r ∈ m.all := List.mem_append.2 (.inl (List.mem_append.2 (.inl hr)))
  have hgl := (ho.rows r hra).lt hg
  refine ⟨by omega, fun e => (ho.ge g (.inr (.inr e))).2 r hra hg, fun b hb e => ?_⟩
  have h1 := (List.pairwise_append.1 (List.pairwise_append.1 ho.ap).1).2.2 r hr b.g2 (List.mem_flatMap.2 ⟨b, hb, by simp⟩)
  exact h1 g hg e
theorem OwnM.ge_all {TM TB : TypeId} {w0 w : World} {m : LM} (h : OwnM TM TB w0 w m) {r : Rw} (hr : r ∈ m.all) {g : Nat} (hg : r.v.ownBlock = some g) : w0.heap.size ≤ g := (h.rows r hr).2 g hg
/-- the row's own block -/
theorem own_at {w : World} {e n c i : Nat} {A : Option Addr} {cs : List Value} (h : Own w e 1 (.slice A n c) n cs) (hi : i < n) : ∃ g, A = some ⟨g, 0, none⟩ ∧ (Value.slice A n c).ownBlock = some g := by
  rcases h.2 with ⟨e2, h0⟩ | ⟨g, cap, cur, e2, _⟩
  · omega
  · injection e2 with e3
    exact ⟨g, e3, by rw [e3]; rfl⟩
end Go.Wk.YtdelgnflcfhhkaaGreatDoor
namespace Go.Wk.YtdelgnflcfhhkaaGreatDoor
open Go Go.Wk Go.Proofs
theorem valid_ok {m : Md} : (validQ m).2.2 = 0 ↔ (allQ m).2.2 = 0 ∧ farQ (reachQ m) = none := by
  unfold validQ
  split
  · rename_i h
    cases farQ (reachQ m) <;> simp [h]
  · rename_i h
    simp [h]
end Go.Wk.YtdelgnflcfhhkaaGreatDoor
namespace Go.Wk.YtdelgnflcfhhkaaGreatDoor
open Go Go.Wk Go.Proofs
section
variable {P : Program} {fn : Func} {R : Ending → World → Prop} {n : Nat} {w : World}
/-- a store into a row of one's own, of several cells each -/
theorem ev_storeFlat {k : List It} {env : Env} {L l : List Oper} {t : TypeId} {x y : Operand} {ty : TypeId} {ps : String} {af : Array Edge} {g : Option (Nat × Bool)} {tab : Tab} {b o sz : Nat} {v : Value} {e : TypeId} {r : Value} {nn : Nat} {xs : List Value}
    (hT : TabOk P tab) (hg : guardOf L env g = some true) (hx : ev env x = some (.pointer (some ⟨b, o, none⟩))) (hy : ev env y = some v) (hag : aggT (tyAt tab t) = some false) (hs : szAt tab t = 1) (hv : v.oneCell' = true)
    (hr : Own w e sz r nn xs) (hb : r.ownBlock = some b) (ho : o < nn * sz)
    (hk : ∀ w', Own w' e sz r nn (xs.set o v) → Fr (fun c => c = b) w w' → H P fn R n (.ops L l :: k) .normal env w') :
    H P fn R n (.ops L (⟨none, .store t x y, ty, ps, af, g⟩ :: l) :: k) .normal env w := by
  rcases hr.2 with ⟨rfl, _⟩ | ⟨q, cap, cur, rfl, hbq, hq, hnc, hcm, hcs, ht⟩
  · cases hb
  · simp only [Value.ownBlock, Option.some.injEq] at hb
    subst hb
    have hB : Blk w q cur.toList e := hq
    have hlen : cur.toList.length = cap * sz := by simp [hcs]
    have hle : nn * sz ≤ cap * sz := Nat.mul_le_mul_right _ hnc
    refine ev_store hT hg hx hy hag hs hv hB (blt_of (by omega)) (fun w' hB' hf => hk w' ⟨by rw [List.length_set]; exact hr.1, .inr ⟨q, cap, _, rfl, hbq, hB', hnc, hcm, ?_, ?_⟩⟩ hf)
    · rw [setV_eq]; simp [hcs]
    · rw [setV_eq]
      show (cur.toList.set o v).take (nn * sz) = xs.set o v
      rw [List.take_set, ht]
end
theorem flat_set (j : Nat) (hj : j < 17) (v : Value) : ∀ (l : List (Bk Rw)) (k : Nat) (h : k < l.length), (l.flatMap bkC).set (k * 17 + j) v = (l.take k).flatMap bkC ++ ((bkC l[k]).set j v ++ (l.drop (k + 1)).flatMap bkC)
  | [], k, h => by simp at h
  | b :: l, 0, h => by
    rw [List.flatMap_cons, Nat.zero_mul, Nat.zero_add, List.set_append_left _ _ (by rw [bkC_len]; exact hj)]
    rfl
  | b :: l, k + 1, h => by
    have ih := flat_set j hj v l k (by simpa using h)
    rw [List.flatMap_cons, List.set_append_right _ _ (by rw [bkC_len]; omega), bkC_len, show (k + 1) * 17 + j - 17 = k * 17 + j by omega, ih]
    rfl
/-- a model with one block put for another -/
def LM.put (m : LM) (k : Nat) (b : Bk Rw) : LM := { m with bs := m.bs.take k ++ [b] ++ m.bs.drop (k + 1) }
theorem put_len {m : LM} {k : Nat} {b : Bk Rw} (h : k < m.bs.length) : (m.put k b).bs.length = m.bs.length := by
  simp [LM.put]; omega
theorem put_flat {m : LM} {k : Nat} {b : Bk Rw} : (m.put k b).bs.flatMap bkC = (m.bs.take k).flatMap bkC ++ (bkC b ++ (m.bs.drop (k + 1)).flatMap bkC) := by
  simp [LM.put, List.flatMap_append]
theorem put_self {m : LM} {k : Nat} (h : k < m.bs.length) : m.put k m.bs[k] = m := by
  have : m.bs.take k ++ [m.bs[k]] ++ m.bs.drop (k + 1) = m.bs := by
    rw [List.append_assoc, List.singleton_append, List.getElem_cons_drop, List.take_append_drop]
  unfold LM.put; rw [this]
theorem put_all {m : LM} {k : Nat} {b : Bk Rw} : (m.put k b).all = ([m.gain, m.cos, m.sin, m.bend, m.e] ++ (m.bs.take k).flatMap Bk.rows) ++ (b.rows ++ ((m.bs.drop (k + 1)).flatMap Bk.rows ++ [m.un])) := by
  simp [LM.all, LM.put, List.flatMap_append]
theorem put_at {m : LM} {k : Nat} {b : Bk Rw} (h : k < m.bs.length) : (m.put k b).bs[k]'(by rw [put_len h]; exact h) = b := by
  simp only [LM.put]
  rw [List.getElem_append_left (by simp; omega), List.getElem_append_right (by simp; omega)]
  simp
/-- the blocks' row is written -/
theorem OwnM.setBlk {TM TB : TypeId} {w0 w w' : World} {m : LM} (h : OwnM TM TB w0 w m) {k : Nat} (hk : k < m.bs.length) {b : Bk Rw} (hb : b.rows = m.bs[k].rows) {g : Nat} (hg : (Value.slice m.bA m.bs.length m.bc).ownBlock = some g) (hf : Fr (fun c => c = g) w w')
    (hO : Own w' TB 17 (.slice m.bA m.bs.length m.bc) m.bs.length ((m.put k b).bs.flatMap bkC)) : OwnM TM TB w0 w' (m.put k b) := by
  have e1 : (m.put k b).all = m.all := by
    have h2 := put_all (m := m) (k := k) (b := m.bs[k])
    rw [put_self hk] at h2
    rw [put_all, h2, hb]
  have hl := put_len (b := b) hk
  have z := h.ge g (.inr (.inr hg))
  refine ⟨fun r hr => ?_, by rw [e1]; exact h.ap, h.txt.fr hf (fun x hx e => ?_), h.mrg.fr hf (fun x hx e => ?_), by rw [hl]; exact hO, fun x hx => ?_, fun x hx => ?_, fun x hx => ?_, h.fr.trans hf fun x hx e => by have : x = g := e; omega⟩
  · rw [e1] at hr
    exact (h.rows r hr).fr hf (fun x hx e => z.2 r hr (by have : x = g := e; rw [← this]; exact hx))
  · have : x = g := e
    exact (h.tm x hx).2 (by rw [this]; exact hg)
  · have : x = g := e
    exact h.mb x hx (by rw [this]; exact hg)
  · rw [e1]; rw [hl] at hx; exact h.ge x hx
  · rw [hl]; exact h.tm x hx
  · rw [hl]; exact h.mb x hx
/-- a row is written -/
theorem OwnM.setRow {TM TB : TypeId} {w0 w w' : World} {m : LM} (h : OwnM TM TB w0 w m) {k : Nat} (hk : k < m.bs.length) {b : Bk Rw} {X Y : List Rw} {r r' : Rw} (hb0 : m.bs[k].rows = X ++ r :: Y) (hb : b.rows = X ++ r' :: Y) (hv : r'.v = r.v) (hc : bkC b = bkC m.bs[k]) {g : Nat} (hg : r.v.ownBlock = some g)
    (hf : Fr (fun c => c = g) w w') (hO : Own w' 177 1 r'.v r'.xs.length (r'.xs.map i8v)) : OwnM TM TB w0 w' (m.put k b) := by
  have hl := put_len (b := b) hk
  have e0 : m.all = ([m.gain, m.cos, m.sin, m.bend, m.e] ++ (m.bs.take k).flatMap Bk.rows ++ X) ++ r :: (Y ++ ((m.bs.drop (k + 1)).flatMap Bk.rows ++ [m.un])) := by
    have h2 := put_all (m := m) (k := k) (b := m.bs[k])
    rw [put_self hk, hb0] at h2
    rw [h2]; simp
  have e1 : (m.put k b).all = ([m.gain, m.cos, m.sin, m.bend, m.e] ++ (m.bs.take k).flatMap Bk.rows ++ X) ++ r' :: (Y ++ ((m.bs.drop (k + 1)).flatMap Bk.rows ++ [m.un])) := by
    rw [put_all, hb]; simp
  obtain ⟨L1, hL1⟩ : ∃ L1, L1 = [m.gain, m.cos, m.sin, m.bend, m.e] ++ (m.bs.take k).flatMap Bk.rows ++ X := ⟨_, rfl⟩
  obtain ⟨L2, hL2⟩ : ∃ L2, L2 = Y ++ ((m.bs.drop (k + 1)).flatMap Bk.rows ++ [m.un]) := ⟨_, rfl⟩
  rw [← hL1, ← hL2] at e0 e1
  have hrm : r ∈ m.all := by rw [e0]; simp
  have hap := h.ap
  rw [e0] at hap
  obtain ⟨p1, p2, p3⟩ := List.pairwise_append.1 hap
  obtain ⟨q1, q2⟩ := List.pairwise_cons.1 p2
  have hgl := OwnM.ge_all h hrm hg
  have off : ∀ x, (Value.slice m.tA m.V.texts.length m.tc).ownBlock = some x ∨ (Value.slice m.mA m.V.merges.length m.mc).ownBlock = some x ∨ (Value.slice m.bA m.bs.length m.bc).ownBlock = some x → ¬ x = g := fun x hx e => (h.ge x hx).2 r hrm (by rw [e]; exact hg)
  refine ⟨fun x hx => ?_, ?_, h.txt.fr hf (fun x hx => off x (.inl hx)), h.mrg.fr hf (fun x hx => off x (.inr (.inl hx))), ?_, fun x hx => ?_, fun x hx => ?_, fun x hx => ?_, h.fr.trans hf fun x hx e => by have : x = g := e; omega⟩
  · rw [e1] at hx
    rcases List.mem_append.1 hx with hx | hx
    · exact (h.rows x (by rw [e0]; exact List.mem_append.2 (.inl hx))).fr hf (fun y hy e => p3 x hx r (by simp) y hy (by have : y = g := e; rw [this]; exact hg))
    · rcases List.mem_cons.1 hx with rfl | hx
      · exact ⟨hO, fun y hy => (h.rows r hrm).2 y (by rw [← hv]; exact hy)⟩
      · exact (h.rows x (by rw [e0]; exact List.mem_append.2 (.inr (List.mem_cons_of_mem _ hx)))).fr hf (fun y hy e => q1 x hx g hg (by have : y = g := e; rw [← this]; exact hy))
  · rw [e1]
    refine List.pairwise_append.2 ⟨p1, List.pairwise_cons.2 ⟨fun x hx y hy => q1 x hx y (by rw [← hv]; exact hy), q2⟩, fun x hx y hy z hz e => ?_⟩
    rcases List.mem_cons.1 hy with rfl | hy
    · exact p3 x hx r (by simp) z hz (by rw [← hv]; exact e)
    · exact p3 x hx y (List.mem_cons_of_mem _ hy) z hz e
  · have e2 : (m.put k b).bs.flatMap bkC = m.bs.flatMap bkC := by
      have h2 := put_flat (m := m) (k := k) (b := m.bs[k])
      rw [put_self hk] at h2
      rw [put_flat, hc, h2]
    rw [hl, e2]
    exact h.blk.fr hf (fun x hx => off x (.inr (.inr hx)))
  · rw [hl] at hx
    refine ⟨(h.ge x hx).1, fun y hy e => ?_⟩
    rw [e1] at hy
    have z := (h.ge x hx).2
    rcases List.mem_append.1 hy with hy | hy
    · exact z y (by rw [e0]; exact List.mem_append.2 (.inl hy)) e
    · rcases List.mem_cons.1 hy with rfl | hy
      · exact z r hrm (by rw [← hv]; exact e)
      · exact z y (by rw [e0]; exact List.mem_append.2 (.inr (List.mem_cons_of_mem _ hy))) e
  · rw [hl]; exact h.tm x hx
  · rw [hl]; exact h.mb x hx
theorem put_p {m : LM} {k : Nat} (h : k < m.bs.length) {b : Bk Rw} {f : Bk (List Int8) → Bk (List Int8)} (hb : pBk b = f (pBk m.bs[k])) : (m.put k b).p = { m.p with bs := m.p.bs.modify k f } := by
  have e : (m.put k b).bs.map pBk = m.p.bs.modify k f := by
    rw [List.modify_eq_take_cons_drop (by simpa [LM.p] using h)]
    have e2 : m.p.bs[k]'(by simpa [LM.p] using h) = pBk m.bs[k] := by simp [LM.p]
    rw [e2, ← hb]
    simp [LM.put, LM.p, List.map_append, List.map_take, List.map_drop]
  show LM.p _ = _
  unfold LM.p
  rw [e]
  rfl
theorem blk_own_ne {w : World} {p g sz n : Nat} {T e : TypeId} {cs xs : List Value} {v : Value} (hb : Blk w p cs T) (ho : Own w e sz v n xs) (hg : v.ownBlock = some g) (hne : T ≠ e) : p ≠ g := fun h => by
  rcases ho.2 with ⟨rfl, _⟩ | ⟨q, cap, cur, rfl, _, hq, _⟩
  · cases hg
  · have hg : some q = some g := hg
    cases hg
    subst h
    have hb : w.heap[p]? = some (.cells ⟨cs⟩ T (0, 0)) := hb
    rw [hb] at hq
    cases hq
    exact hne rfl
end Go.Wk.YtdelgnflcfhhkaaGreatDoor
