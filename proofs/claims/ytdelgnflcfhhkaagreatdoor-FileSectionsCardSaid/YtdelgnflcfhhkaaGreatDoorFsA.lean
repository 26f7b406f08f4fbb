/-
  Chapter 17: where the parts of a file stand, in plain; a section more, a number in digits: the walks.
-/
import Derived.Test.YtdelgnflcfhhkaaGreatDoorFlT
import Derived.Test.YtdelgnflcfhhkaaGreatDoorFlP
set_option linter.unusedVariables false
namespace Go.Wk.YtdelgnflcfhhkaaGreatDoor
open Go Go.Wk Go.Proofs

abbrev Prs := List (List UInt8 × Nat)
abbrev Sec := List UInt8 × Nat × Nat
def totP (l : Prs) : Nat := (l.map Prod.snd).sum
def accS : Prs → Nat → List Sec
  | [], _ => []
  | (n, k) :: l, a => (n, a, a + k) :: accS l (a + k)
theorem accS_len : ∀ (l : Prs) (a : Nat), (accS l a).length = l.length
  | [], _ => rfl
  | (n, k) :: l, a => by show (accS l (a + k)).length + 1 = _; rw [accS_len l]; rfl
theorem totP_cons (x : List UInt8 × Nat) (l : Prs) : totP (x :: l) = x.2 + totP l := by unfold totP; rw [List.map_cons, List.sum_cons]
theorem totP_app (l l' : Prs) : totP (l ++ l') = totP l + totP l' := by unfold totP; rw [List.map_append, List.sum_append]
theorem accS_snoc (n : List UInt8) (k : Nat) : ∀ (l : Prs) (a : Nat), accS (l ++ [(n, k)]) a = accS l a ++ [(n, a + totP l, a + totP l + k)]
  | [], a => by simp [accS, totP]
  | (m, j) :: l, a => by
    show (m, a, a + j) :: accS (l ++ [(n, k)]) (a + j) = _
    rw [accS_snoc n k l, totP_cons]
    show _ = (m, a, a + j) :: (accS l (a + j) ++ _)
    rw [Nat.add_assoc a j]
/-- the k-th section -/
theorem accS_at : ∀ (l : Prs) (a k : Nat) (h : k < l.length), (accS l a)[k]? = some ((l[k]).1, a + totP (l.take k), a + totP (l.take (k + 1)))
  | [], _, _, h => by simp at h
  | (n, j) :: l, a, 0, _ => by simp [accS, totP]
  | (n, j) :: l, a, k + 1, h => by
    have ih := accS_at l (a + j) k (by simpa using h)
    show (accS l (a + j))[k]? = _
    rw [ih, List.take_succ_cons, List.take_succ_cons, totP_cons, totP_cons]
    simp [Nat.add_assoc]
/-- the last section's end -/
theorem accS_last (l : Prs) (a : Nat) (h : 0 < l.length) : (accS l a)[l.length - 1]? = some ((l[l.length - 1]).1, a + totP (l.take (l.length - 1)), a + totP l) := by
  rw [accS_at l a (l.length - 1) (by omega), show l.length - 1 + 1 = l.length by omega, List.take_length]
abbrev secC (x : Sec) : List Value := [.string (sOf x.1), i64 x.2.1, i64 x.2.2]
theorem secC_len (x : Sec) : (secC x).length = 3 := rfl
def SHIFTS : List UInt8 := [115, 104, 105, 102, 116, 115]
def headN (i : Nat) : List UInt8 := [98, 108, 111, 99, 107, 32] ++ [(UInt8.ofNat (48 + i))] ++ [46]
def rowN : List (List UInt8) := [[103, 97, 105, 110, 49], [113], [107], [118], [111], [103, 97, 105, 110, 50], [103, 97, 116, 101], [117, 112], [100, 111, 119, 110]]
def blkP (i : Nat) (b : Bk (List Int8)) : Prs := (headN i ++ SHIFTS, 8) :: (List.range 9).map fun k => (headN i ++ rowN.getD k [], (b.frs.getD k []).length)
def blksP (bs : List (Bk (List Int8))) (n : Nat) : Prs := (List.range n).flatMap fun i => blkP i (bs.getD i ⟨[], [], [], [], [], [], 0, 0, 0, 0, 0, [], [], [], 0, 0, 0⟩)
def txtS (l : List (List UInt8)) : Nat := (l.map fun t => 1 + t.length).sum
def headP (m : Md) : Prs := [([109, 97, 103, 105, 99], 8), ([115, 104, 97, 112, 101], 12), (SHIFTS, 2), ([116, 101, 120, 116, 115], txtS m.V.texts), ([109, 101, 114, 103, 101, 115], 2 + 6 * m.V.merges.length), ([101, 109, 98, 101, 100], m.e.length), ([99, 111, 115], m.cos.length), ([115, 105, 110], m.sin.length)]
def tailP (m : Md) : Prs := [([98, 101, 110, 100], m.bend.length), ([103, 97, 105, 110], m.gain.length), ([117, 110, 101, 109, 98, 101, 100], m.un.length), ([100, 105, 103, 101, 115, 116], 8)]
def secP (m : Md) : Prs := headP m ++ blksP m.bs m.bs.length ++ tailP m
def secQ (m : Md) : List Sec := accS (secP m) 0
/-- Sections' answer -/
def sectA (s : List UInt8) : List Sec × Int := if (decA s).2 = 0 then (secQ (decA s).1, 0) else ([], (decA s).2)
/-- the program's sections that are being written -/
structure PS (wi w : World) (pO pA : Nat) (v : Value) (l : Prs) : Prop where
  ko : Blk w pO [v] 22
  o : Own w 31 3 v l.length ((accS l 0).flatMap secC)
  vg : ∀ g, v.ownBlock = some g → wi.heap.size ≤ g
  ka : Blk w pA [i64 (totP l)] 3
  ge : wi.heap.size ≤ pO ∧ wi.heap.size ≤ pA
  fr : Fr no wi w
  tb : totP l ≤ 1000000 * l.length
theorem PS.fr0 {wi w w' : World} {pO pA : Nat} {v : Value} {l : Prs} (h : PS wi w pO pA v l) (hf : Fr no w w') : PS wi w' pO pA v l :=
  ⟨h.ko.fr0 hf, h.o.fr0 hf, h.vg, h.ka.fr0 hf, h.ge, h.fr.tr hf, h.tb⟩
/-- what a section more writes -/
def psW (pO pA : Nat) (v : Value) : Nat → Prop := fun c => c = pO ∨ c = pA ∨ v.ownBlock = some c
theorem PS.keep {wi w w' : World} {pO pA : Nat} {v : Value} {l : Prs} (h : PS wi w pO pA v l) (hf : Fr (psW pO pA v) w w') {b : Nat} {cs : List Value} {T : TypeId} (hk : Blk w b cs T) (n1 : T ≠ 22) (n2 : T ≠ 3) (n3 : T ≠ 31) : Blk w' b cs T := by
  have ne : ∀ {b' : Nat} {cs' : List Value} {T' : TypeId}, Blk w b' cs' T' → T ≠ T' → b ≠ b' := fun h' hT e => by
    subst e
    unfold Blk at hk h'
    rw [hk] at h'
    simp only [Option.some.injEq, Obj.cells.injEq] at h'
    exact hT h'.2.1
  refine hk.fr hf fun e => ?_
  rcases e with e | e | e
  · exact ne h.ko n1 e
  · exact ne h.ka n2 e
  · exact blk_own_ne hk h.o e n3 rfl
theorem wAddS (wi w : World) (pO pA : Nat) (v : Value) (l : Prs) (n : List UInt8) (k : Nat) (h : PS wi w pO pA v l) (hl : l.length ≤ 1000000) (hk : k ≤ 1000000) :
    CallsF Tryz.prog 15 [.string (sOf n), i64 k, ptA pO 0, ptA pA 0] w fun r w' => (∃ v', PS wi w' pO pA v' (l ++ [(n, k)])) ∧ Fr (psW pO pA v) w w' := by
  have ko := h.ko
  have ho := h.o
  have ka := h.ka
  have hT : totP (l ++ [(n, k)]) = totP l + k := by rw [totP_app]; simp [totP]
  have htb := h.tb
  obtain ⟨A, c, rfl, _, _⟩ := ho.slice
  have hne : pO ≠ pA := fun e => by
    subst e
    unfold Blk at ko ka
    rw [ko] at ka
    simp at ka
  refine callsF Tryz.func15 rfl rfl (by decide) rfl ?_
  refine sA [] rfl ?_; refine ev_loadB rfl rfl tabOk rfl rfl ‹_› (by rfl) ?_; refine sA [] rfl ?_; refine ev_loadB rfl rfl tabOk rfl rfl ‹_› (by rfl) ?_; refine ev_loadB rfl rfl tabOk rfl rfl ‹_› (by rfl) ?_; refine sA [] rfl ?_; refine ev_arith rfl rfl rfl rfl rfl (by simp only [lowK, hiK]; omega) ?_
  refine ev_build rfl rfl (v := .agg ⟨secC (n, totP l, totP l + k)⟩) rfl (fun w => by kernel_rfl) ?_
  refine ev_append1 (vs := [.agg ⟨secC (n, totP l, totP l + k)⟩]) tabOk rfl rfl (fun _ => rfl) rfl rfl inf31 rfl (by omega) (fun _ => rfl) rfl rfl (fun v hv => by rw [List.mem_singleton.1 hv]; rfl) (allOne_ok rfl) rfl ho (by omega) (fun v' w1 bq hB e1 nB => ?_)
  have hB : Own w1 31 3 v' (l.length + 1) ((accS (l ++ [(n, k)]) 0).flatMap secC) := by
    rw [accS_snoc, List.flatMap_append, Nat.zero_add]; exact hB
  have ko1 := ko.fr e1 (fun e => blk_own_ne ko ho e (by decide) rfl)
  have ka1 := ka.fr e1 (fun e => blk_own_ne ka ho e (by decide) rfl)
  have hvg : ∀ g, v'.ownBlock = some g → wi.heap.size ≤ g := fun g hg => by
    rcases nB g hg with h2 | h2
    · exact h.vg g h2
    · exact Nat.le_trans h.fr.size h2
  clear ko ka
  skip
  refine ev_store tabOk rfl rfl rfl rfl rfl (own1 hB) ko1 rfl (fun w2 ko2 e2 => ?_)
  have ka2 := ka1.fr e2 (fun e => hne e.symm)
  have hB2 := hB.fr e2 (fun g hg e => blk_own_ne ko1 hB hg (by decide) (by have e : g = pO := e; exact e.symm))
  clear ka1
  refine sA [] rfl ?_; refine ev_loadB rfl rfl tabOk rfl rfl ‹_› (by rfl) ?_; refine sA [] rfl ?_; refine ev_arith rfl rfl rfl rfl rfl (by simp only [lowK, hiK]; omega) ?_
  refine ev_store tabOk rfl rfl rfl rfl rfl rfl ka2 rfl (fun w3 ka3 e3 => ?_)
  have ko3 := ko2.fr e3 hne
  have hB3 := hB2.fr e3 (fun g hg e => blk_own_ne ka2 hB2 hg (by decide) (by have e : g = pA := e; exact e.symm))
  have hfr : Fr (psW pO pA (.slice A l.length c)) w w3 := ((e1.mono fun z _ e => .inr (.inr e)).trans e2 fun z _ e => .inl e).trans e3 fun z _ e => .inr (.inl e)
  refine sA [] rfl ?_
  refine ev_ret0 (.inl rfl) rfl ⟨_, rfl, ⟨v', ko3, by rw [List.length_append]; exact hB3, hvg, by rw [hT]; exact ka3, h.ge, h.fr.trans hfr fun z hz e => ?_, by rw [hT, List.length_append, List.length_singleton]; omega⟩, hfr⟩
  rcases e with e | e | e
  · have := h.ge.1; omega
  · have := h.ge.2; omega
  · have := h.vg z e; omega
theorem wItoa (i : Nat) (w : World) (hi : i < 10) : CallsF Tryz.prog 16 [i64 i] w fun r w' => r = .string (sOf [UInt8.ofNat (48 + i)]) ∧ w' = w := by
  have key : (([48, 49, 50, 51, 52, 53, 54, 55, 56, 57, 97, 98, 99, 100, 101, 102, 103, 104, 105, 106, 107, 108, 109, 110, 111, 112, 113, 114, 115, 116, 117, 118, 119, 120, 121, 122] : List UInt8).take (i + 1)).drop i = [UInt8.ofNat (48 + i)] := by
    match i, hi with
    | 0, _ => rfl
    | 1, _ => rfl
    | 2, _ => rfl
    | 3, _ => rfl
    | 4, _ => rfl
    | 5, _ => rfl
    | 6, _ => rfl
    | 7, _ => rfl
    | 8, _ => rfl
    | 9, _ => rfl
    | i + 10, h => exact absurd h (by omega)
  have hsm : CallsF Tryz.prog 124 [i64 i] w fun r w' => r = .string (sOf [UInt8.ofNat (48 + i)]) ∧ w' = w := by
    refine callsF Tryz.func124 rfl rfl (by decide) rfl ?_
    refine sC [] rfl ?_; refine sC [] rfl ?_; refine sD [] rfl ?_; refine sD [] rfl ?_
    rw [show decide ((i : Int) < 10) = true from decide_eq_true (by omega)]
    refine sA [] rfl ?_; refine ev_arith rfl rfl rfl rfl rfl (by simp only [lowK, hiK]; omega) ?_
    refine ev_sliceStr (s := [48, 49, 50, 51, 52, 53, 54, 55, 56, 57, 97, 98, 99, 100, 101, 102, 103, 104, 105, 106, 107, 108, 109, 110, 111, 112, 113, 114, 115, 116, 117, 118, 119, 120, 121, 122]) (i := (i : Int)) (j := (i : Int) + 1) rfl rfl tabOk rfl rfl rfl rfl (by omega) (by omega) (by show (i : Int) + 1 ≤ ((36 : Nat) : Int); omega) ?_
    rw [show ((i : Int) + 1).toNat = i + 1 by omega, Int.toNat_natCast, key]
    refine sA [] rfl ?_
    exact ret1 (.inr rfl) rfl rfl ⟨rfl, rfl⟩
  have hfi : CallsF Tryz.prog 91 [i64 i, i64 10] w fun r w' => r = .string (sOf [UInt8.ofNat (48 + i)]) ∧ w' = w := by
    refine callsF Tryz.func91 rfl rfl (by decide) rfl ?_
    refine sB [] rfl ?_; refine sC [] rfl ?_
    rw [show decide ((0 : Int) ≤ (i : Int)) = true from decide_eq_true (by omega)]
    skip
    rw [show decide ((i : Int) < 100) = true from decide_eq_true (by omega)]
    refine sA [] rfl ?_
    refine ev_call rfl rfl rfl hsm ?_
    rintro r w1 ⟨rfl, rfl⟩
    refine sA [] rfl ?_
    exact ret1 (.inr rfl) rfl rfl ⟨rfl, rfl⟩
  have hit : CallsF Tryz.prog 54 [i64 i] w fun r w' => r = .string (sOf [UInt8.ofNat (48 + i)]) ∧ w' = w := by
    refine callsF Tryz.func54 rfl rfl (by decide) rfl ?_
    refine sA [] rfl ?_
    refine ev_call rfl rfl rfl hfi ?_
    rintro r w1 ⟨rfl, rfl⟩
    refine sA [] rfl ?_
    exact ret1 (.inr rfl) rfl rfl ⟨rfl, rfl⟩
  refine callsF Tryz.func16 rfl rfl (by decide) rfl ?_
  refine sA [] rfl ?_
  refine ev_call rfl rfl rfl hit ?_
  rintro r w1 ⟨rfl, rfl⟩
  refine sA [] rfl ?_
  exact ret1 (.inr rfl) rfl rfl ⟨rfl, rfl⟩
theorem hDecimal (i : Nat) (w : World) (hi : i < 10) : CallsF Tryz.prog 21 [i64 i] w fun r w' => r = .string (sOf [UInt8.ofNat (48 + i)]) ∧ w' = w := by
  have key : (([48, 49, 50, 51, 52, 53, 54, 55, 56, 57] : List UInt8).take (i + 1)).drop i = [UInt8.ofNat (48 + i)] := by
    match i, hi with
    | 0, _ => rfl
    | 1, _ => rfl
    | 2, _ => rfl
    | 3, _ => rfl
    | 4, _ => rfl
    | 5, _ => rfl
    | 6, _ => rfl
    | 7, _ => rfl
    | 8, _ => rfl
    | 9, _ => rfl
    | i + 10, h => exact absurd h (by omega)
  refine callsF Tryz.func21 rfl rfl (by decide) rfl ?_
  refine sC [] rfl ?_; refine sC [] rfl ?_; refine sD [] rfl ?_; refine sD [] rfl ?_
  rw [show decide ((i : Int) < 10) = true from decide_eq_true (by omega)]
  refine sA [] rfl ?_; refine ev_arith rfl rfl rfl rfl rfl (by simp only [lowK, hiK]; omega) ?_
  refine ev_sliceStr (s := [48, 49, 50, 51, 52, 53, 54, 55, 56, 57]) (i := (i : Int)) (j := (i : Int) + 1) rfl rfl tabOk rfl rfl rfl rfl (by omega) (by omega) (by show (i : Int) + 1 ≤ ((10 : Nat) : Int); omega) ?_
  rw [show ((i : Int) + 1).toNat = i + 1 by omega, Int.toNat_natCast, key]
  refine sA [] rfl ?_
  exact ret1 (.inr rfl) rfl rfl ⟨rfl, rfl⟩
/-- a section more (the document's) -/
theorem hSection (v : Value) (l : Prs) (n : List UInt8) (k : Nat) (w : World) (ho : Own w 32 3 v l.length ((accS l 0).flatMap secC)) (hl : l.length ≤ 1000000) (hk : k ≤ 1000000) (htb : totP l ≤ 1000000 * l.length) :
    CallsF Tryz.prog 20 [v, .string (sOf n), i64 k] w fun r w' => Own w' 32 3 r (l.length + 1) ((accS (l ++ [(n, k)]) 0).flatMap secC) ∧ NB w v r ∧ Fr (fun c => v.ownBlock = some c) w w' := by
  obtain ⟨A, c, rfl, hA, _⟩ := ho.slice
  refine callsF Tryz.func20 rfl rfl (by decide) rfl ?_
  refine sC [] rfl ?_; refine sC [] rfl ?_; refine sC [] rfl ?_; refine sD [] rfl ?_; refine sD [] rfl ?_; refine sD [] rfl ?_
  refine ev_join1 (α := Unit) (fun _ => [(0, .slice A l.length c), (1, .string (sOf n)), (2, i64 k), (7, i64 (totP l))]) (fun _ w' => w' = w) ?_ ?_
  · skip
    refine ev_condD rfl (fun c1 => ?_) (fun c1 => ?_)
    · have hpos : 0 < l.length := by have c1 : (0 : Int) < l.length := c1; omega
      have hla := accS_last l 0 hpos
      obtain ⟨g, o, hAe, hc⟩ := hA ((l.length - 1) * 3 + 2) (i64 (totP l : Nat)) (flat_at secC_len hla (j := 2) (by rw [Nat.zero_add, Nat.zero_add]; rfl))
      have hc : w.cell? ⟨g, o + ((l.length : Int) - 1).toNat * 3 + 2, none⟩ = some (i64 (totP l : Nat)) := by
        rw [show ((l.length : Int) - 1).toNat = l.length - 1 by omega, Nat.add_assoc]; exact hc
      refine sA [] rfl ?_; refine ev_arith rfl rfl rfl rfl rfl (by simp only [lowK, hiK]; omega) ?_
      refine ev_indexAddr rfl rfl tabOk (congrArg (fun z => some (Value.slice z l.length c)) hAe) rfl rfl (by omega) (by omega) ?_
      refine sA [] rfl ?_; refine ev_load rfl rfl tabOk rfl rfl ‹_› ?_; refine sA [] rfl ?_
      exact ev_out () rfl ⟨rfl, rfl, rfl, rfl, trivial⟩
    · have h0 : l = [] := List.eq_nil_of_length_eq_zero (by have c1 : ¬ (0 : Int) < l.length := c1; omega)
      refine sA [] rfl ?_
      exact ev_out () rfl ⟨rfl, rfl, rfl, by rw [h0]; rfl, trivial⟩
  rintro ⟨⟩ w' rfl
  refine sA [] rfl ?_; refine ev_arith rfl rfl rfl rfl rfl (by simp only [lowK, hiK]; omega) ?_
  refine ev_build rfl rfl (v := .agg ⟨secC (n, totP l, totP l + k)⟩) rfl (fun w => by kernel_rfl) ?_
  refine ev_append1 (vs := [.agg ⟨secC (n, totP l, totP l + k)⟩]) tabOk rfl rfl (fun _ => rfl) rfl rfl inf32 rfl (by omega) (fun _ => rfl) rfl rfl (fun v hv => by rw [List.mem_singleton.1 hv]; rfl) (allOne_ok rfl) rfl ho (by omega) (fun v' w1 bq hB e1 nB => ?_)
  have hB : Own w1 32 3 v' (l.length + 1) ((accS (l ++ [(n, k)]) 0).flatMap secC) := by
    rw [accS_snoc, List.flatMap_append, Nat.zero_add]; exact hB
  refine sA [] rfl ?_
  exact ret1 (.inr rfl) rfl rfl ⟨hB, nB, e1⟩
end Go.Wk.YtdelgnflcfhhkaaGreatDoor
