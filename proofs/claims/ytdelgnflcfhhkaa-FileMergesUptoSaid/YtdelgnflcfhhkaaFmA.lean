/-
  Chapter 17: an adapter that is laid into a matrix, in plain; the document's walk.
-/
import Derived.Test.YtdelgnflcfhhkaaFlP
set_option linter.unusedVariables false
namespace Go.Wk.Ytdelgnflcfhhkaa
open Go Go.Wk Go.Proofs

def prodQ (A B : List Int8) (R d i j k : Nat) : Int := (B.getD (i * R + k) 0).toInt * (A.getD (k * d + j) 0).toInt
def smA (A B : List Int8) (R d i j : Nat) : Nat → Int
  | 0 => 0
  | k + 1 => smA A B R d i j k + prodQ A B R d i j k
def cellQ (W A B : List Int8) (R S d i j : Nat) : Int := narrowQ ((W.getD (i * d + j) 0).toInt + roundQ (smA A B R d i j R) S)
def adQ (W A B : List Int8) (R S d : Nat) : List Int8 := (List.range (d * d)).map fun p => Int8.ofInt (cellQ W A B R S d (p / d) (p % d))
theorem i8_bd (x : Int8) : -128 ≤ x.toInt ∧ x.toInt ≤ 127 := by
  have h1 := x.le_toInt
  have h2 := x.toInt_lt
  omega
theorem prod_bd {x y : Int} (hx : -128 ≤ x ∧ x ≤ 127) (hy : -128 ≤ y ∧ y ≤ 127) : -16384 ≤ x * y ∧ x * y ≤ 16384 := by
  have h : (x * y).natAbs ≤ 128 * 128 := by
    rw [Int.natAbs_mul]
    exact Nat.mul_le_mul (by omega) (by omega)
  omega
theorem smA_bd (A B : List Int8) (R d i j : Nat) : ∀ k : Nat, -16384 * (k : Int) ≤ smA A B R d i j k ∧ smA A B R d i j k ≤ 16384 * (k : Int)
  | 0 => by unfold smA; omega
  | k + 1 => by
    have ih := smA_bd A B R d i j k
    have h := prod_bd (i8_bd (B.getD (i * R + k) 0)) (i8_bd (A.getD (k * d + j) 0))
    have e : smA A B R d i j (k + 1) = smA A B R d i j k + prodQ A B R d i j k := rfl
    rw [e]
    unfold prodQ
    omega
theorem roundQ_bd2 {x : Int} (s : Nat) {c : Int} (h : -c ≤ x ∧ x ≤ c) : -c ≤ roundQ x s ∧ roundQ x s ≤ c + 1 := by
  have hd : (1 : Int) ≤ 2 ^ s := by have := Int.pow_pos (n := 2) (m := s) (by omega); omega
  have h1 := nearQ_bd (x := x) hd
  unfold roundQ
  by_cases h0 : 0 ≤ x
  · have := h1.1 h0; omega
  · have := h1.2 (by omega); omega
theorem adQ_len (W A B : List Int8) (R S d : Nat) : (adQ W A B R S d).length = d * d := by unfold adQ; rw [List.length_map, List.length_range]
theorem idx_lt {i j d R : Nat} (hi : i < d) (hj : j < R) : i * R + j < d * R := by
  have h : (i + 1) * R ≤ d * R := Nat.mul_le_mul_right _ hi
  rw [Nat.add_mul] at h
  omega
theorem adQ_at (W A B : List Int8) (R S : Nat) {d i j : Nat} (hi : i < d) (hj : j < d) : (adQ W A B R S d)[i * d + j]? = some (Int8.ofInt (cellQ W A B R S d i j)) := by
  have hlt := idx_lt hi hj
  have e1 : (i * d + j) / d = i := by rw [Nat.mul_comm, Nat.mul_add_div (by omega), Nat.div_eq_of_lt hj]; rfl
  have e2 : (i * d + j) % d = j := by rw [Nat.mul_comm, Nat.mul_add_mod, Nat.mod_eq_of_lt hj]
  unfold adQ
  rw [List.getElem?_map, List.getElem?_range hlt]
  show some (Int8.ofInt (cellQ W A B R S d ((i * d + j) / d) ((i * d + j) % d))) = _
  rw [e1, e2]
/-- a cell of a row of 8-bit numbers -/
theorem rw_cell {w : World} {r : Rw} (h : r.At w) {k : Nat} (hk : k < r.xs.length) : ∃ g o, r.A = some ⟨g, o, none⟩ ∧ w.cell? ⟨g, o + k * 1, none⟩ = some (.int .i8 (r.xs.getD k 0).toInt) := by
  obtain ⟨g, o, e, hc⟩ := h k (i8v r.xs[k]) (by rw [List.getElem?_map, List.getElem?_eq_getElem hk]; rfl)
  exact ⟨g, o, e, by rw [Nat.mul_one, hc, List.getD_eq_getElem?_getD, List.getElem?_eq_getElem hk]; rfl⟩
abbrev adC (bk pt rk sf : Int) (A B : Rw) : List Value := [i64 bk, i64 pt, i64 rk, i64 sf, A.v, B.v]
set_option maxHeartbeats 8000000 in
theorem hAdapted (M A B : Rw) (bk pt : Int) (R S d : Nat) (w : World) (hM : M.At w) (hA : A.At w) (hB : B.At w) (hd : d ≤ 64) (hR : R ≤ 16) (hS : S ≤ 31) (hml : M.xs.length = d * d) (hal : A.xs.length = R * d) (hbl : B.xs.length = d * R) :
    CallsF Try.prog 57 [M.v, i64 d, .agg ⟨adC bk pt R S A B⟩] w fun r w' => ∃ y : Rw, r = y.v ∧ y.xs = adQ M.xs A.xs B.xs R S d ∧ OR w w' y ∧ Fr no w w' := by
  have hdd : d * d ≤ 4096 := Nat.mul_le_mul hd hd
  obtain ⟨Q, hQ⟩ : ∃ Q, Q = adQ M.xs A.xs B.xs R S d := ⟨_, rfl⟩
  have hQl : Q.length = d * d := by rw [hQ]; exact adQ_len _ _ _ _ _ _
  rw [← hQ]
  refine callsF Try.func57 rfl rfl (by decide) rfl ?_
  refine sA [] rfl ?_
  refine ev_box rfl rfl rfl fun p w1 hp kp f1 => ?_
  have kp : Blk w1 p (adC bk pt R S A B) 71 := kp
  refine sA [] rfl ?_
  refine ev_buildSlice tabOk rfl rfl rfl inf60 rfl rfl rfl (by simp) rfl (fun q w2 hq kq f2 => ?_)
  have ho2 : Own w2 60 1 (.slice (some ⟨q, 0, none⟩) 0 0) 0 [] := own_of_blk kq rfl (by omega)
  have hM1 := hM.fr0 f1
  have hA1 := hA.fr0 f1
  have hB1 := hB.fr0 f1
  have hd1 : ∀ {i j : Nat}, i < d → j < d → i * d + j < d * d ∧ i * d + d ≤ d * d := fun hi hj => ⟨idx_lt hi hj, by
    have := Nat.mul_le_mul_right d (show _ + 1 ≤ d from hi)
    rw [Nat.add_mul] at this; omega⟩
  clear kq
  refine sA [] rfl ?_
  refine ev_loop (α := Nat × Value) (fun z => [(0, M.v), (1, i64 d), (5, ptA p 0), (7, z.2), (8, i64 z.1)])
    (fun z w' => z.1 ≤ d ∧ Own w' 60 1 z.2 (z.1 * d) ((Q.take (z.1 * d)).map i8v) ∧ Fr no w1 w' ∧ ∀ g, z.2.ownBlock = some g → w1.heap.size ≤ g) (fun z => d - z.1) (0, .slice (some ⟨q, 0, none⟩) 0 0) ⟨rfl, rfl, rfl, rfl, rfl, trivial⟩
    ⟨Nat.zero_le _, by simpa using ho2, f2, fun g hg => by cases hg; exact hq⟩ ?_
  rintro ⟨i, v⟩ wi ⟨hi, ho, fi, hv⟩
  have hi : i ≤ d := hi
  simp only at ho hv
  refine sC [] rfl ?_; refine sD [] rfl ?_; refine sD [] rfl ?_; refine sD [] rfl ?_
  refine ev_condD rfl (fun c => ?_) (fun c => ?_)
  · have hid : i < d := by have c : (i : Int) < d := c; omega
    refine sA [] rfl ?_
    refine ev_loop (α := Nat × Value) (fun z => [(0, M.v), (1, i64 d), (5, ptA p 0), (7, z.2), (8, i64 i), (9, i64 z.1)])
      (fun z w' => z.1 ≤ d ∧ Own w' 60 1 z.2 (i * d + z.1) ((Q.take (i * d + z.1)).map i8v) ∧ Fr no w1 w' ∧ ∀ g, z.2.ownBlock = some g → w1.heap.size ≤ g) (fun z => d - z.1) (0, v) ⟨rfl, rfl, rfl, rfl, rfl, rfl, trivial⟩
      ⟨Nat.zero_le _, ho, fi, hv⟩ ?_
    clear ho fi hv
    rintro ⟨j, v⟩ wj ⟨hj, ho, fj, hv⟩
    have hj : j ≤ d := hj
    simp only at ho hv
    refine sC [] rfl ?_; refine sD [] rfl ?_; refine sD [] rfl ?_; refine sD [] rfl ?_
    refine ev_condD rfl (fun c2 => ?_) (fun c2 => ?_)
    · have hjd : j < d := by have c2 : (j : Int) < d := c2; omega
      obtain ⟨hn1, hn2⟩ := hd1 hid hjd
      have kpj := kp.fr0 fj
      have hAj := hA1.fr0 fj
      have hBj := hB1.fr0 fj
      have hMj := hM1.fr0 fj
      refine sA [] rfl ?_
      refine ev_loop (α := Nat) (fun k => [(0, M.v), (1, i64 d), (5, ptA p 0), (7, v), (8, i64 i), (9, i64 j), (10, i64 (smA A.xs B.xs R d i j k)), (11, i64 k)])
        (fun k w' => k ≤ R ∧ Fr no wj w') (fun k => R - k) 0 ⟨rfl, rfl, rfl, rfl, rfl, rfl, rfl, rfl, trivial⟩ ⟨Nat.zero_le _, Fr.refl _ _⟩ ?_
      rintro k wk ⟨hk, fk⟩
      have kpk := kpj.fr0 fk
      refine sA [] rfl ?_; refine ev_loadB rfl rfl tabOk rfl rfl ‹_› (by rfl) ?_; refine sD [] rfl ?_; refine sD [] rfl ?_
      refine ev_condD rfl (fun c3 => ?_) (fun c3 => ?_)
      · have hkR : k < R := by have c3 : (k : Int) < R := c3; omega
        have hs := smA_bd A.xs B.xs R d i j k
        have hpr := prod_bd (i8_bd (B.xs.getD (i * R + k) 0)) (i8_bd (A.xs.getD (k * d + j) 0))
        have e1 := i8_bd (B.xs.getD (i * R + k) 0)
        have e2 := i8_bd (A.xs.getD (k * d + j) 0)
        have b1 : i * R + k < d * R := idx_lt hid hkR
        have b2 : k * d + j < R * d := idx_lt hkR hjd
        have b3 : R * d ≤ 1024 := Nat.mul_le_mul hR hd
        have b4 : d * R ≤ 1024 := Nat.mul_le_mul hd hR
        have b5 : (i : Int) * (R : Int) = ((i * R : Nat) : Int) := (Int.natCast_mul i R).symm
        have b6 : (k : Int) * (d : Int) = ((k * d : Nat) : Int) := (Int.natCast_mul k d).symm
        obtain ⟨gB, oB, hBA, hBc⟩ := rw_cell (hBj.fr0 fk) (k := i * R + k) (by omega)
        obtain ⟨gA, oA, hAA, hAc⟩ := rw_cell (hAj.fr0 fk) (k := k * d + j) (by omega)
        have hBc : wk.cell? ⟨gB, oB + ((i : Int) * (R : Int) + (k : Int)).toNat * 1, none⟩ = some (.int .i8 (B.xs.getD (i * R + k) 0).toInt) := by
          rw [show ((i : Int) * (R : Int) + (k : Int)).toNat = i * R + k by omega]; exact hBc
        have hAc : wk.cell? ⟨gA, oA + ((k : Int) * (d : Int) + (j : Int)).toNat * 1, none⟩ = some (.int .i8 (A.xs.getD (k * d + j) 0).toInt) := by
          rw [show ((k : Int) * (d : Int) + (j : Int)).toNat = k * d + j by omega]; exact hAc
        refine sA [] rfl ?_
        refine ev_draw mixed (by kernel_rfl) ?_
        refine qA rfl ?_; refine q_loadB rfl rfl tabOk rfl rfl ‹_› (by rfl) ?_; refine qA rfl ?_; refine q_loadB rfl rfl tabOk rfl rfl ‹_› (by rfl) ?_; refine q_arith rfl rfl rfl rfl rfl (by simp only [lowK, hiK]; omega) ?_; refine qA rfl ?_; refine q_arith rfl rfl rfl rfl rfl (by simp only [lowK, hiK]; omega) ?_
        refine q_indexAddr rfl rfl tabOk (congrArg (fun z => some (Value.slice z B.xs.length B.c)) hBA) rfl rfl (by omega) (by omega) ?_
        refine q_load rfl rfl tabOk rfl rfl (fun _ hf => cell_fr (by assumption) hf id) ?_; refine q_conv rfl rfl tabOk rfl rfl rfl (by simp only [lowK, hiK]; omega) ?_; refine qA rfl ?_; refine q_loadB rfl rfl tabOk rfl rfl ‹_› (by rfl) ?_; refine qA rfl ?_; refine q_arith rfl rfl rfl rfl rfl (by simp only [lowK, hiK]; omega) ?_; refine qA rfl ?_; refine q_arith rfl rfl rfl rfl rfl (by simp only [lowK, hiK]; omega) ?_
        refine q_indexAddr rfl rfl tabOk (congrArg (fun z => some (Value.slice z A.xs.length A.c)) hAA) rfl rfl (by omega) (by omega) ?_
        refine q_load rfl rfl tabOk rfl rfl (fun _ hf => cell_fr (by assumption) hf id) ?_; refine q_conv rfl rfl tabOk rfl rfl rfl (by simp only [lowK, hiK]; omega) ?_; refine q_arith rfl rfl rfl rfl rfl (by simp only [lowK, hiK]; omega) ?_; refine q_arith rfl rfl rfl rfl rfl (by simp only [lowK, hiK]; omega) ?_; refine qA rfl ?_
        refine q_end fun wl fl => ?_
        refine sA [] rfl ?_; refine ev_arith rfl rfl rfl rfl rfl (by simp only [lowK, hiK]; omega) ?_; refine sA [] rfl ?_
        refine ev_next (k + 1) (by omega) ⟨by omega, fk.tr fl⟩ ⟨rfl, rfl, rfl, rfl, rfl, rfl, rfl, by show _ = some (i64 ((k + 1 : Nat) : Int)); rw [show ((k + 1 : Nat) : Int) = (k : Int) + 1 by omega]; rfl, trivial⟩
      have hkR : k = R := by have c3 : ¬ (k : Int) < R := c3; omega
      subst hkR
      have hs := smA_bd A.xs B.xs k d i j k
      refine sA [] rfl ?_; refine ev_loadB rfl rfl tabOk rfl rfl ‹_› (by rfl) ?_
      refine ev_call rfl rfl rfl (refRound (smA A.xs B.xs k d i j k) S wk (by constructor <;> omega) (by omega)) ?_
      rintro r wl ⟨rfl, rfl⟩
      have hrd := roundQ_bd2 S (x := smA A.xs B.xs k d i j k) (c := 262144) (by omega)
      obtain ⟨y, hy⟩ : ∃ y, y = roundQ (smA A.xs B.xs k d i j k) S := ⟨_, rfl⟩
      rw [← hy] at hrd ⊢
      have b5 : (i : Int) * (d : Int) = ((i * d : Nat) : Int) := (Int.natCast_mul i d).symm
      obtain ⟨gM, oM, hMA, hMc⟩ := rw_cell (hMj.fr0 fk) (k := i * d + j) (by omega)
      have hMc : wl.cell? ⟨gM, oM + ((i : Int) * (d : Int) + (j : Int)).toNat * 1, none⟩ = some (.int .i8 (M.xs.getD (i * d + j) 0).toInt) := by
        rw [show ((i : Int) * (d : Int) + (j : Int)).toNat = i * d + j by omega]; exact hMc
      have e3 := i8_bd (M.xs.getD (i * d + j) 0)
      refine sA [] rfl ?_; refine ev_arith rfl rfl rfl rfl rfl (by simp only [lowK, hiK]; omega) ?_; refine sA [] rfl ?_; refine ev_arith rfl rfl rfl rfl rfl (by simp only [lowK, hiK]; omega) ?_
      refine ev_indexAddr rfl rfl tabOk (congrArg (fun z => some (Value.slice z M.xs.length M.c)) hMA) rfl rfl (by omega) (by omega) ?_
      refine ev_load rfl rfl tabOk rfl rfl ‹_› ?_; refine ev_conv rfl rfl tabOk rfl rfl rfl (by simp only [lowK, hiK]; omega) ?_; refine sA [] rfl ?_; refine ev_arith rfl rfl rfl rfl rfl (by simp only [lowK, hiK]; omega) ?_
      refine ev_call rfl rfl rfl (refNarrow ((M.xs.getD (i * d + j) 0).toInt + y) _) ?_
      rintro r wl ⟨rfl, rfl⟩
      have hnb := narrowQ_bd ((M.xs.getD (i * d + j) 0).toInt + y)
      have hcq : cellQ M.xs A.xs B.xs k S d i j = narrowQ ((M.xs.getD (i * d + j) 0).toInt + y) := by rw [hy]; rfl
      have hQa := adQ_at M.xs A.xs B.xs k S hid hjd
      rw [← hQ, hcq] at hQa
      obtain ⟨u, hu⟩ : ∃ u, u = narrowQ ((M.xs.getD (i * d + j) 0).toInt + y) := ⟨_, rfl⟩
      rw [← hu] at hnb hQa ⊢
      have ho := ho.fr0 fk
      obtain ⟨Av, cv, rfl, _, _⟩ := ho.slice
      skip
      refine ev_append1 (vs := [.int .i8 u]) tabOk rfl rfl (fun _ => rfl) rfl rfl inf60 rfl (by omega) (fun _ => rfl) rfl rfl (by simp [Value.cells]) (by simp [flatV, Value.cells, Value.oneCell']) rfl ho (by omega) (fun v2 wm qm hB2 fm nB => ?_)
      have hB2 : Own wm 60 1 v2 (i * d + (j + 1)) ((Q.take (i * d + (j + 1))).map i8v) := by
        have e : Q.take (i * d + (j + 1)) = Q.take (i * d + j) ++ [Int8.ofInt u] := by
          rw [← Nat.add_assoc, List.take_add_one, hQa]; rfl
        rw [e, List.map_append, show [Int8.ofInt u].map i8v = [.int .i8 u] by rw [i8_of (by omega)]; rfl]
        exact hB2
      refine sA [] rfl ?_; refine ev_arith rfl rfl rfl rfl rfl (by simp only [lowK, hiK]; omega) ?_; refine sA [] rfl ?_
      refine ev_next (j + 1, v2) (by show d - (j + 1) < d - j; omega) ⟨by show j + 1 ≤ d; omega, hB2, (fj.tr fk).trans fm (fun z hz e => by have := hv z e; omega), fun g hg => ?_⟩ ⟨rfl, rfl, rfl, rfl, rfl, by show _ = some (i64 ((j + 1 : Nat) : Int)); rw [show ((j + 1 : Nat) : Int) = (j : Int) + 1 by omega]; rfl, trivial⟩
      rcases nB g hg with h | h
      · exact hv g h
      · have := fj.size
        have := fk.size
        omega
    have hjd : j = d := by have c2 : ¬ (j : Int) < d := c2; omega
    subst hjd
    have e : i * j + j = (i + 1) * j := (Nat.succ_mul i j).symm
    rw [e] at ho
    refine sA [] rfl ?_; refine ev_arith rfl rfl rfl rfl rfl (by simp only [lowK, hiK]; omega) ?_; refine sA [] rfl ?_
    exact ev_next (i + 1, v) (by show j - (i + 1) < j - i; omega) ⟨by show i + 1 ≤ j; omega, ho, fj, hv⟩ ⟨rfl, rfl, rfl, rfl, by show _ = some (i64 ((i + 1 : Nat) : Int)); rw [show ((i + 1 : Nat) : Int) = (i : Int) + 1 by omega]; rfl, trivial⟩
  have hid : i = d := by have c : ¬ (i : Int) < d := c; omega
  subst hid
  rw [← hQl, List.take_length] at ho
  obtain ⟨Av, cv, rfl, _, _⟩ := ho.slice
  refine sA [] rfl ?_
  exact ret1 (.inr rfl) rfl rfl ⟨⟨Av, cv, Q⟩, rfl, rfl, ⟨ho, fun g hg => by have := hv g hg; have := f1.size; omega⟩, f1.tr fi⟩
end Go.Wk.Ytdelgnflcfhhkaa
