/-
  Chapter 17: the parts of a file stand one behind the other up to its end; law FileSections.
-/
import Derived.Test.YtdelgnflcfhhkaaGreatDoorFsC
set_option linter.unusedVariables false
namespace Go.Wk.YtdelgnflcfhhkaaGreatDoor
open Go Go.Wk Go.Proofs

theorem nl1 {n : Int} (h : 0 ≤ n ∧ n < 256) : (numB n 1).length = 1 := by rw [numB_eq (fit1 h.1 h.2)]; exact leB_len _ _
theorem nl2 {n : Int} (h : 0 ≤ n ∧ n < 65536) : (numB n 2).length = 2 := by rw [numB_eq (fit2 h.1 h.2)]; exact leB_len _ _
theorem flat_eq {α : Type} {f : α → List UInt8} {c : Nat} : ∀ {l : List α}, (∀ a ∈ l, (f a).length = c) → (l.flatMap f).length = c * l.length
  | [], _ => by simp
  | a :: l, h => by
    have ih := flat_eq (l := l) fun x hx => h x (List.mem_cons_of_mem _ hx)
    have := h a List.mem_cons_self
    rw [List.flatMap_cons, List.length_append, List.length_cons, Nat.mul_succ]; omega
theorem wr_len (l : List Int8) : (wrwB l).length = l.length := List.length_map _
theorem encT_len : ∀ {l : List (List UInt8)}, (∀ t ∈ l, t.length ≤ 64) → (l.flatMap encT).length = txtS l
  | [], _ => rfl
  | t :: l, h => by
    have ih := encT_len (l := l) fun x hx => h x (List.mem_cons_of_mem _ hx)
    have h1 := h t List.mem_cons_self
    have h2 : (encT t).length = 1 + t.length := by unfold encT; rw [List.length_append, nl1 (by omega)]
    have e : txtS (t :: l) = (1 + t.length) + txtS l := by unfold txtS; rw [List.map_cons, List.sum_cons]
    rw [List.flatMap_cons, List.length_append, ih, h2, e]
theorem encBk_len {b : Bk (List Int8)} (h : ∀ x ∈ b.shs, 0 ≤ x ∧ x ≤ 31) (i : Nat) : (encBk b).length = totP (blkP i b) := by
  unfold encBk
  rw [List.length_append, flat_eq (f := encN 1) (c := 1) (fun x hx => nl1 (by have := h x hx; omega))]
  show 1 * 8 + _ = _
  have e : totP (blkP i b) = 8 + (b.g1.length + (b.q.length + (b.k.length + (b.v.length + (b.o.length + (b.g2.length + (b.ga.length + (b.up.length + (b.dn.length + 0))))))))) := rfl
  rw [e]
  simp only [Bk.frs, List.flatMap_cons, List.flatMap_nil, List.length_append, wr_len, List.length_nil]
theorem blks_tot : ∀ {bs : List (Bk (List Int8))} (n : Nat), n ≤ bs.length → (∀ b ∈ bs, ∀ x ∈ b.shs, 0 ≤ x ∧ x ≤ 31) → ((bs.take n).flatMap encBk).length = totP (blksP bs n)
  | bs, 0, _, _ => by rw [List.take_zero]; rfl
  | bs, n + 1, h, hs => by
    have ih := blks_tot n (by omega) hs
    have hn : n < bs.length := h
    rw [blksP_succ bs hn, totP_app, ← ih, List.take_succ_eq_append_getElem hn, List.flatMap_append, List.length_append, ← encBk_len (hs _ (List.getElem_mem hn)) n]
    simp
theorem sec_tot {m : Md} (h : VM m) : totP (secP m) = (fileQ m).length := by
  rw [fileQ_len]
  have hV := h.V
  have hes := h.es
  have hls := h.ls
  have hmf := hV.fewM
  have e1 : (encS m.s).length = 12 := by
    unfold encS
    rw [flat_eq (f := encN 2) (c := 2) (fun x hx => nl2 (by have := vm_nums h x hx; omega))]
    rfl
  have e2 : (m.V.texts.flatMap encT).length = txtS m.V.texts := encT_len fun t ht => by
    obtain ⟨i, hi, rfl⟩ := List.getElem_of_mem ht
    have := (hV.texts i hi).2.2
    rwa [show m.V.t i = m.V.texts[i] by unfold VV.t; rw [List.getD_eq_getElem?_getD, List.getElem?_eq_getElem hi]; rfl] at this
  have e3 : (m.V.merges.flatMap encG).length = 6 * m.V.merges.length := flat_eq fun g hg => by
    obtain ⟨i, hi, rfl⟩ := List.getElem_of_mem hg
    have := hV.merges i hi
    rw [VV.okM, show m.V.m i = m.V.merges[i] by unfold VV.m; rw [List.getD_eq_getElem?_getD, List.getElem?_eq_getElem hi]; rfl] at this
    have a1 := tok_bd hV this.1
    have a2 := tok_bd hV this.2.1
    have a3 := tok_bd hV this.2.2.1
    unfold encG
    rw [List.length_append, List.length_append, nl2 a1, nl2 a2, nl2 a3]
  have e4 := blks_tot m.bs.length (Nat.le_refl _) (vm_shs h)
  rw [List.take_length] at e4
  have n1 := nl1 (n := m.es) (by omega)
  have n2 := nl1 (n := m.ls) (by omega)
  have n3 := nl2 (n := m.V.merges.length) (by omega)
  have hh : totP (headP m) = 8 + (12 + (2 + (txtS m.V.texts + (2 + 6 * m.V.merges.length + (m.e.length + (m.cos.length + (m.sin.length + 0))))))) := rfl
  have ht : totP (tailP m) = m.bend.length + (m.gain.length + (m.un.length + (8 + 0))) := rfl
  unfold secP
  rw [totP_app, totP_app, hh, ht, ← e4]
  unfold encM encBody encV
  simp only [List.length_append, wr_len, e1, e2, e3, n1, n2, n3]
  omega
theorem sect_prs (s : List UInt8) : ∃ P e, sectA s = (accS P 0, e) ∧ P.length ≤ 1000 ∧ (e = 0 → totP P = s.length) := by
  have hsq := decA_smq s
  unfold sectA
  split
  · rename_i h
    obtain ⟨m, h1, h2, h3, _⟩ := decA_inv h
    refine ⟨secP (decA s).1, 0, rfl, ?_, fun _ => ?_⟩
    · have hb := hsq.bs
      unfold secP
      rw [List.length_append, List.length_append, blksP_len]
      have e1 : (headP (decA s).1).length = 8 := rfl
      have e2 : (tailP (decA s).1).length = 4 := rfl
      omega
    rw [h1, sec_tot (vm_of h2), ← h3]
  · rename_i h
    exact ⟨[], (decA s).2, rfl, Nat.zero_le _, fun h2 => absurd h2 h⟩
theorem take_tot (l : Prs) (k : Nat) : totP (l.take k) ≤ totP (l.take (k + 1)) := by
  rw [List.take_add_one, totP_app]; omega
set_option maxHeartbeats 8000000 in
set_option maxRecDepth 10000 in
theorem lawSections (s : List UInt8) (w : World) (hs : s.length ≤ 140737488351232) :
    CallsF Tryz.prog 3 [.string (sOf s)] w fun r w' => r = .bool true ∧ Fr no w w' := by
  have h1 := fun w => wSections s w (by omega)
  have h2 := fun w => hSections s w (by omega)
  obtain ⟨P, e, hP, hPl, hlen⟩ := sect_prs s
  rw [hP] at h1 h2
  have hL := accS_len P 0
  simp only [hL] at h1 h2
  refine callsF Tryz.func3 rfl rfl (by decide) rfl ?_
  refine sA [] rfl ?_
  refine ev_call rfl rfl rfl (h1 w) ?_
  rintro r w1 ⟨A, ca, rfl, hA, f1⟩
  refine sA [] rfl ?_
  refine ev_call rfl rfl rfl (h2 w1) ?_
  rintro r w2 ⟨B, cb, rfl, hB, f2⟩
  have hA := hA.fr0 f2
  have hF := f1.tr f2
  refine sA [] rfl ?_
  refine ev_call rfl rfl rfl (lAwake17 w2) ?_
  rintro r w3 ⟨rfl, f3⟩
  have hA := hA.fr0 f3
  have hB := hB.fr0 f3
  have hF := hF.tr f3
  refine sC [] rfl ?_; refine sD [] rfl ?_; refine sD [] rfl ?_; refine sD [] rfl ?_
  rw [show decide (¬ e = e) = false from decide_eq_false (fun h => h rfl)]
  refine sC [] rfl ?_; refine sD [] rfl ?_; refine sD [] rfl ?_; refine sD [] rfl ?_
  rw [show decide (¬ (P.length : Int) = (P.length : Int)) = false from decide_eq_false (fun h => h rfl)]
  refine sA [] rfl ?_
  refine ev_loop (α := Nat) (fun i => [(0, .string (sOf s)), (3, .slice A P.length ca), (4, i64 e), (5, .slice B P.length cb), (7, i64 (totP (P.take i))), (8, i64 i)])
    (fun i w' => i ≤ P.length ∧ Fr no w3 w') (fun i => P.length - i) 0 ⟨rfl, rfl, rfl, rfl, rfl, rfl, trivial⟩ ⟨Nat.zero_le _, Fr.refl _ _⟩ ?_
  rintro i wi ⟨hi, fi⟩
  refine sC [] rfl ?_; refine sC [] rfl ?_
  refine ev_condD rfl (fun c => ?_) (fun c => ?_)
  · have hil : i < P.length := by have c : (i : Int) < P.length := c; omega
    have hx := accS_at P 0 i hil
    rw [Nat.zero_add, Nat.zero_add] at hx
    have hle := take_tot P i
    obtain ⟨nm, hnm⟩ : ∃ nm, nm = (P[i]).1 := ⟨_, rfl⟩
    obtain ⟨f0, hf0⟩ : ∃ f0, f0 = totP (P.take i) := ⟨_, rfl⟩
    obtain ⟨t0, ht0⟩ : ∃ t0, t0 = totP (P.take (i + 1)) := ⟨_, rfl⟩
    rw [← hnm, ← hf0, ← ht0] at hx
    rw [← hf0, ← ht0] at hle
    rw [← hf0]
    have hcs : ∀ {A : Option Addr}, Cs w3 A ((accS P 0).flatMap secC) → ∃ g o, A = some ⟨g, o, none⟩ ∧ wi.cell? ⟨g, o + (i : Int).toNat * 3 + 0, none⟩ = some (.string (sOf nm)) ∧ wi.cell? ⟨g, o + (i : Int).toNat * 3 + 1, none⟩ = some (i64 f0) ∧ wi.cell? ⟨g, o + (i : Int).toNat * 3 + 2, none⟩ = some (i64 t0) := fun {A} h => by
      have h := h.fr0 fi
      obtain ⟨g, o, e, c0⟩ := h _ _ (flat_at secC_len hx (j := 0) rfl)
      subst e
      have c1 := h.at (flat_at secC_len hx (j := 1) rfl)
      have c2 := h.at (flat_at secC_len hx (j := 2) rfl)
      rw [← Nat.add_assoc] at c0 c1 c2
      exact ⟨g, o, rfl, by rw [Int.toNat_natCast]; exact c0, by rw [Int.toNat_natCast]; exact c1, by rw [Int.toNat_natCast]; exact c2⟩
    obtain ⟨ga, oa, hAe, a0, a1, a2⟩ := hcs hA
    obtain ⟨gb, ob, hBe, b0, b1, b2⟩ := hcs hB
    refine sA [] rfl ?_
    refine ev_draw mixed (by kernel_rfl) ?_
    refine qA rfl ?_
    refine q_indexAddr rfl rfl tabOk (congrArg (fun z => some (Value.slice z P.length ca)) hAe) rfl rfl (by omega) (by omega) ?_
    refine qA rfl ?_; refine q_load rfl rfl tabOk rfl rfl (fun _ hf => cell_fr (by assumption) hf id) ?_; refine qA rfl ?_
    refine q_indexAddr rfl rfl tabOk (congrArg (fun z => some (Value.slice z P.length cb)) hBe) rfl rfl (by omega) (by omega) ?_
    refine qA rfl ?_; refine q_load rfl rfl tabOk rfl rfl (fun _ hf => cell_fr (by assumption) hf id) ?_; refine qD rfl ?_; refine qD rfl ?_
    rw [show decide (¬ nm = nm) = false from decide_eq_false (fun h => h rfl)]
    refine qA rfl ?_
    refine q_indexAddr rfl rfl tabOk (congrArg (fun z => some (Value.slice z P.length ca)) hAe) rfl rfl (by omega) (by omega) ?_
    refine qA rfl ?_; refine q_load rfl rfl tabOk rfl rfl (fun _ hf => cell_fr (by assumption) hf id) ?_; refine qA rfl ?_
    refine q_indexAddr rfl rfl tabOk (congrArg (fun z => some (Value.slice z P.length cb)) hBe) rfl rfl (by omega) (by omega) ?_
    refine qA rfl ?_; refine q_load rfl rfl tabOk rfl rfl (fun _ hf => cell_fr (by assumption) hf id) ?_; refine qD rfl ?_; refine qD rfl ?_; refine qD rfl ?_
    rw [show decide (¬ (f0 : Int) = (f0 : Int)) = false from decide_eq_false (fun h => h rfl)]
    refine qA rfl ?_
    refine q_indexAddr rfl rfl tabOk (congrArg (fun z => some (Value.slice z P.length ca)) hAe) rfl rfl (by omega) (by omega) ?_
    refine qA rfl ?_; refine q_load rfl rfl tabOk rfl rfl (fun _ hf => cell_fr (by assumption) hf id) ?_; refine qA rfl ?_
    refine q_indexAddr rfl rfl tabOk (congrArg (fun z => some (Value.slice z P.length cb)) hBe) rfl rfl (by omega) (by omega) ?_
    refine qA rfl ?_; refine q_load rfl rfl tabOk rfl rfl (fun _ hf => cell_fr (by assumption) hf id) ?_; refine qD rfl ?_; refine qD rfl ?_; refine qD rfl ?_
    rw [show decide (¬ (t0 : Int) = (t0 : Int)) = false from decide_eq_false (fun h => h rfl)]
    refine qA rfl ?_
    refine q_indexAddr rfl rfl tabOk (congrArg (fun z => some (Value.slice z P.length ca)) hAe) rfl rfl (by omega) (by omega) ?_
    refine qA rfl ?_; refine q_load rfl rfl tabOk rfl rfl (fun _ hf => cell_fr (by assumption) hf id) ?_; refine qC rfl ?_
    rw [show decide (¬ (f0 : Int) = (f0 : Int)) = false from decide_eq_false (fun h => h rfl)]
    refine qA rfl ?_
    refine q_indexAddr rfl rfl tabOk (congrArg (fun z => some (Value.slice z P.length ca)) hAe) rfl rfl (by omega) (by omega) ?_
    refine qA rfl ?_; refine q_load rfl rfl tabOk rfl rfl (fun _ hf => cell_fr (by assumption) hf id) ?_; refine qA rfl ?_
    rw [show decide ((t0 : Int) < (f0 : Int)) = false from decide_eq_false (by omega)]
    skip
    refine q_end fun wj fj => ?_
    have a2 := cell_fr a2 fj id
    refine sA [] rfl ?_
    refine ev_indexAddr rfl rfl tabOk (congrArg (fun z => some (Value.slice z P.length ca)) hAe) rfl rfl (by omega) (by omega) ?_
    refine sA [] rfl ?_; refine ev_load rfl rfl tabOk rfl rfl ‹_› ?_; refine sA [] rfl ?_; refine ev_arith rfl rfl rfl rfl rfl (by simp only [lowK, hiK]; omega) ?_; refine sA [] rfl ?_
    exact ev_next (i + 1) (by omega) ⟨by omega, fi.tr fj⟩ ⟨rfl, rfl, rfl, rfl, by show _ = some (i64 ((totP (P.take (i + 1)) : Nat) : Int)); rw [← ht0]; rfl, by show _ = some (i64 ((i + 1 : Nat) : Int)); rw [show ((i + 1 : Nat) : Int) = (i : Int) + 1 by omega]; rfl, trivial⟩
  have hin : i = P.length := by have c : ¬ (i : Int) < P.length := c; omega
  subst hin
  rw [List.take_length]
  refine sC [] rfl ?_; refine sC [] rfl ?_; refine sD [] rfl ?_
  by_cases he : e = 0
  · rw [show decide (¬ e = 0) = false from decide_eq_false (fun h => h he), hlen he]
    refine sA [] rfl ?_
    exact ret1 (.inr rfl) rfl rfl ⟨by rw [show decide ((s.length : Int) = (s.length : Int)) = true from decide_eq_true rfl], hF.tr fi⟩
  · rw [show decide (¬ e = 0) = true from decide_eq_true he]
    refine sA [] rfl ?_
    exact ret1 (.inr rfl) rfl rfl ⟨rfl, hF.tr fi⟩
end Go.Wk.YtdelgnflcfhhkaaGreatDoor
