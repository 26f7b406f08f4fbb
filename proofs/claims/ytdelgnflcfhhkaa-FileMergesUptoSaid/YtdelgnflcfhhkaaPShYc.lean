/-
  Taken for this seat out of ShYc.
-/
import Derived.Test.YtdelgnflcfhhkaaPShYb
set_option linter.unusedVariables false
namespace Go.Wk.Ytdelgnflcfhhkaa
open Go Go.Wk Go.Proofs
set_option maxHeartbeats 1000000 in
theorem refMatrix (A : Option Addr) (len cap : Nat) (n : Int) (w : World) (hl : len ≤ 4611686018427387904) (hn : okI n) :
    CallsF Try.prog 118 [.slice A len cap, i64 n] w fun r w' => r = i64 (matK len n) ∧ Fr no w w' := by
  unfold matK
  refine callsF Try.func118 rfl rfl (by decide) rfl ?_
  refine sC [] rfl ?_; refine sC [] rfl ?_; refine sD [] rfl ?_; refine sD [] rfl ?_; refine sD [] rfl ?_
  refine ev_condD rfl (fun c => ?_) (fun c => ?_)
  · refine sA [] rfl ?_
    rw [if_pos (by omega)]
    exact ret1 (.inr rfl) rfl rfl ⟨rfl, Fr.refl _ _⟩
  · rw [if_neg (by omega)]
    refine sC [] rfl ?_; refine sD [] rfl ?_; refine sD [] rfl ?_; refine sD [] rfl ?_
    by_cases c2 : n < 1
    · rw [show decide (n < 1) = true from decide_eq_true c2, if_pos c2]
      refine sA [] rfl ?_
      exact ret1 (.inr rfl) rfl rfl ⟨rfl, Fr.refl _ _⟩
    · rw [show decide (n < 1) = false from decide_eq_false c2, if_neg c2]
      refine sA [] rfl ?_; refine ev_rem rfl rfl rfl rfl (by omega) (by omega) ?_; refine sD [] rfl ?_; refine sD [] rfl ?_; refine sD [] rfl ?_
      refine ev_condD rfl (fun c3 => ?_) (fun c3 => ?_)
      · refine sA [] rfl ?_
        rw [if_neg c3]
        exact ret1 (.inr rfl) rfl rfl ⟨rfl, Fr.refl _ _⟩
      · refine sA [] rfl ?_
        rw [if_pos (Decidable.not_not.1 c3)]
        exact ret1 (.inr rfl) rfl rfl ⟨rfl, Fr.refl _ _⟩
theorem cutN {i cap g o : Nat} (h : i < cap) : cutA 1 i cap (some ⟨g, o, none⟩) = some ⟨g, o + i, none⟩ := by
  unfold cutA
  rw [if_neg (by omega)]
  simp [Addr.add]
set_option maxHeartbeats 4000000 in
theorem refSizes (A : Option Addr) (xs : List Int8) (cap n q : Nat) (w : World) (hA : Cs w A (xs.map i8v)) (h1 : 1 ≤ n) (hxs : xs.length = q * n) (hlen : q * n ≤ 1048576) (hcap : xs.length ≤ cap) (hno : n ≤ 1048577) :
    CallsF Try.prog 106 [.slice A xs.length cap, i64 n] w fun r w' => ∃ B c, r = .tuple #[.slice B q c, i64 0] ∧ Cs w' B ((List.range q).map (szV xs n)) ∧ Fr no w w' := by
  have hmat : matK xs.length (n : Int) = 0 := by
    unfold matK
    rw [hxs, if_neg (by omega), if_neg (by omega), if_pos (by rw [Int.natCast_mul]; exact Int.mul_emod_left _ _)]
  have hq1 : q ≤ q * n := Nat.le_mul_of_pos_right q h1
  refine callsF Try.func106 rfl rfl (by decide) rfl ?_
  refine sA [] rfl ?_
  refine ev_call rfl rfl rfl (refMatrix A xs.length cap n w (by omega) (by constructor <;> omega)) ?_
  rintro r w1 ⟨rfl, f1⟩
  rw [hmat]
  refine sA [] rfl ?_
  refine ev_buildSlice (vs := []) tabOk rfl rfl rfl inf2 rfl rfl rfl (fun v hv => by simp at hv) rfl (fun b w2 hb hb2 f2 => ?_)
  have hO : Own w2 2 1 (.slice (some ⟨b, 0, none⟩) 0 0) 0 ((List.range 0).map (szV xs n)) := own_of_blk hb2 rfl (by omega)
  have hF := f1.tr f2
  have hge : ∀ g, (Value.slice (some ⟨b, 0, none⟩) 0 0).ownBlock = some g → w.heap.size ≤ g := fun g hg => by cases hg; exact Nat.le_trans f1.size hb
  refine sA [] rfl ?_
  refine ev_loop (α := Nat × Value) (fun y => [(0, .slice A xs.length cap), (1, i64 n), (7, y.2), (8, i64 (y.1 * n : Nat))])
    (fun y w' => y.1 ≤ q ∧ Fr no w w' ∧ Own w' 2 1 y.2 y.1 ((List.range y.1).map (szV xs n)) ∧ ∀ g, y.2.ownBlock = some g → w.heap.size ≤ g) (fun y => q - y.1) (0, .slice (some ⟨b, 0, none⟩) 0 0) ⟨rfl, rfl, rfl, by rw [Nat.zero_mul]; rfl, trivial⟩ ⟨Nat.zero_le _, hF, hO, hge⟩ ?_
  clear hF hO hge
  rintro ⟨k, v⟩ w3 ⟨hk, hF, hO, hge⟩
  have hk : k ≤ q := hk
  have hO : Own w3 2 1 v k ((List.range k).map (szV xs n)) := hO
  have hge : ∀ g, v.ownBlock = some g → w.heap.size ≤ g := hge
  have hkq : k * n ≤ q * n := Nat.mul_le_mul_right n hk
  refine sC [] rfl ?_; refine sC [] rfl ?_
  refine ev_condD rfl (fun c => ?_) (fun c => ?_)
  · have hlt : k < q := by
      have c : ((k * n : Nat) : Int) < xs.length := c
      rcases Nat.lt_or_ge k q with h | h
      · exact h
      · have := Nat.mul_le_mul_right n h; omega
    have hkn : k * n + n ≤ q * n := by have := Nat.mul_le_mul_right n (show k + 1 ≤ q by omega); rwa [Nat.succ_mul] at this
    obtain ⟨g, o, rfl, _⟩ := hA (k * n) (i8v (xs[k * n]'(by omega))) (by rw [List.getElem?_map, List.getElem?_eq_getElem (by omega)]; rfl)
    refine sA [] rfl ?_; refine ev_arith rfl rfl rfl rfl rfl (by simp only [lowK, hiK]; omega) ?_
    refine ev_slice rfl rfl tabOk rfl rfl rfl rfl (by show (0 : Int) ≤ (k * n : Nat); omega) (by show ((k * n : Nat) : Int) ≤ (k * n : Nat) + (n : Int); omega) (by show ((k * n : Nat) : Int) + (n : Int) ≤ cap; omega) ?_
    rw [show (((k, v) : Nat × Value).1 * n) = k * n from rfl, Int.toNat_natCast, show (((k * n : Nat) : Int) + (n : Int)).toNat - k * n = n by omega, cutN (show k * n < cap by omega)]
    refine sA [] rfl ?_
    refine ev_loop (α := Nat) (fun j => [(0, .slice (some ⟨g, o, none⟩) xs.length cap), (1, i64 n), (7, v), (8, i64 (k * n : Nat)), (9, i64 (partQ xs (k * n) j)), (31, .slice (some ⟨g, o + k * n, none⟩) n (cap - k * n)), (32, i64 n), (33, i64 j)])
      (fun j w' => j ≤ n ∧ w' = w3) (fun j => n - j) 0 ⟨rfl, rfl, rfl, rfl, rfl, rfl, rfl, rfl, trivial⟩ ⟨Nat.zero_le _, rfl⟩ ?_
    rintro j w4 ⟨hj, rfl⟩
    have hpb := partQ_bd xs (k * n) j
    refine sC [] rfl ?_; refine sD [] rfl ?_
    refine ev_condD rfl (fun c2 => ?_) (fun c2 => ?_)
    · have hjn : j < n := by omega
      have hin : k * n + j < xs.length := by omega
      have hps := partQ_succ xs hin
      obtain ⟨g', o', e, hcc⟩ := (hA.fr0 hF) (k * n + j) (i8v xs[k * n + j]) (by simp [List.getElem?_eq_getElem hin])
      cases e
      have hyb := i8_bd' xs[k * n + j]
      have hcc : w4.cell? ⟨g, o + (k * n + j), none⟩ = some (.int .i8 xs[k * n + j].toInt) := hcc
      obtain ⟨y, hy⟩ : ∃ y, y = xs[k * n + j].toInt := ⟨_, rfl⟩
      rw [← hy] at hcc hyb hps
      obtain ⟨s0, hs0⟩ : ∃ s0, s0 = partQ xs (k * n) j := ⟨_, rfl⟩
      rw [← hs0] at hpb hps ⊢
      refine sA [] rfl ?_
      refine ev_indexAddr rfl rfl tabOk rfl rfl rfl (by omega) (by omega) ?_
      refine ev_load rfl rfl tabOk rfl rfl (by rw [show o + k * n + (j : Int).toNat * 1 = o + (k * n + j) by omega]; exact hcc) ?_
      refine sC [] rfl ?_; refine sD [] rfl ?_; refine sD [] rfl ?_; refine sD [] rfl ?_
      refine ev_condD rfl (fun c3 => ?_) (fun c3 => ?_)
      · refine sA [] rfl ?_; refine ev_conv rfl rfl tabOk rfl rfl rfl (by simp only [lowK, hiK]; omega) ?_; refine ev_arith rfl rfl rfl rfl rfl (by simp only [lowK, hiK]; omega) ?_; refine sA [] rfl ?_; refine ev_arith rfl rfl rfl rfl rfl (by simp only [lowK, hiK]; omega) ?_; refine sA [] rfl ?_
        refine ev_next (j + 1) (by omega) ⟨by omega, rfl⟩ ⟨rfl, rfl, rfl, rfl, by rw [hps, show s0 + (y.natAbs : Int) = s0 - y by omega]; rfl, rfl, rfl, by rw [show ((j + 1 : Nat) : Int) = (j : Int) + 1 by omega]; rfl, trivial⟩
      · refine sA [] rfl ?_; refine ev_conv rfl rfl tabOk rfl rfl rfl (by simp only [lowK, hiK]; omega) ?_; refine ev_arith rfl rfl rfl rfl rfl (by simp only [lowK, hiK]; omega) ?_; refine sA [] rfl ?_; refine ev_arith rfl rfl rfl rfl rfl (by simp only [lowK, hiK]; omega) ?_; refine sA [] rfl ?_
        refine ev_next (j + 1) (by omega) ⟨by omega, rfl⟩ ⟨rfl, rfl, rfl, rfl, by rw [hps, show s0 + (y.natAbs : Int) = s0 + y by omega]; rfl, rfl, rfl, by rw [show ((j + 1 : Nat) : Int) = (j : Int) + 1 by omega]; rfl, trivial⟩
    · obtain rfl : j = n := by omega
      refine sA [] rfl ?_
      refine ev_append1 (vs := [szV xs j k]) tabOk rfl rfl (fun _ => rfl) rfl rfl inf2 rfl (by omega) (fun _ => rfl) rfl rfl (fun v hv => by rw [List.mem_singleton.1 hv]; rfl) (allOne_ok rfl) rfl hO (by omega) (fun v' w5 bq hO5 f5 hn5 => ?_)
      have hF5 : Fr no w w5 := hF.trans f5 fun z hz e => by have := hge z e; omega
      have hs := hF.size
      have hge5 : ∀ g, v'.ownBlock = some g → w.heap.size ≤ g := fun g hg => by
        rcases hn5 g hg with h | h
        · exact hge g h
        · omega
      refine sA [] rfl ?_; refine ev_arith rfl rfl rfl rfl rfl (by simp only [lowK, hiK]; omega) ?_; refine sA [] rfl ?_
      refine fun a hA' => ⟨(k + 1, v'), by show q - (k + 1) < q - k; omega, ⟨by show k + 1 ≤ q; omega, hF5, ?_, hge5⟩, hA'.sub ⟨rfl, rfl, rfl, by show _ = some (i64 (((k + 1) * j : Nat) : Int)); rw [Nat.succ_mul, show ((k * j + j : Nat) : Int) = ((k * j : Nat) : Int) + (j : Int) by omega]; rfl, trivial⟩⟩
      show Own w5 2 1 v' (k + 1) ((List.range (k + 1)).map (szV xs j))
      rw [List.range_succ, List.map_append]
      exact hO5
  · obtain rfl : k = q := by
      have c : ¬ ((k * n : Nat) : Int) < xs.length := c
      rcases Nat.lt_or_ge k q with h | h
      · have := Nat.mul_lt_mul_of_pos_right h h1; omega
      · omega
    refine sA [] rfl ?_
    obtain ⟨B, cc, rfl, hB, _⟩ := hO.slice
    exact ret2 (.inr rfl) rfl rfl rfl ⟨B, cc, rfl, hB, hF⟩
set_option maxHeartbeats 1000000 in
theorem refMost (A : Option Addr) (xs : List Int8) (cap n q s : Nat) (w : World) (hA : Cs w A (xs.map i8v)) (h1 : 1 ≤ n) (hxs : xs.length = q * n) (hlen : q * n ≤ 1048576) (hcap : xs.length ≤ cap) (hno : n ≤ 1048577) (hs : s ≤ 32) :
    CallsF Try.prog 76 [.slice A xs.length cap, i64 n, i64 s] w fun r w' => r = i64 (moreQ xs n s q) ∧ Fr no w w' := by
  have hq1 : q ≤ q * n := Nat.le_mul_of_pos_right q h1
  refine callsF Try.func76 rfl rfl (by decide) rfl ?_
  refine sA [] rfl ?_
  refine ev_call rfl rfl rfl (refSizes A xs cap n q w hA h1 hxs hlen hcap hno) ?_
  rintro r w1 ⟨B, c, rfl, hB, f1⟩
  refine sA [] rfl ?_
  refine ev_loop (α := Nat) (fun y => [(2, i64 s), (20, .slice B q c), (21, i64 q), (7, i64 (moreQ xs n s y)), (22, i64 y)]) (fun y w' => y ≤ q ∧ Fr no w w' ∧ Cs w' B ((List.range q).map (szV xs n))) (fun y => q - y) 0 ⟨rfl, rfl, rfl, rfl, rfl, trivial⟩ ⟨Nat.zero_le _, f1, hB⟩ ?_
  clear hB f1
  rintro i w2 ⟨hi, f2, hB⟩
  refine sC [] rfl ?_; refine sD [] rfl ?_
  refine ev_condD rfl (fun c => ?_) (fun c => ?_)
  · have hlt : i < q := by omega
    have hb1 := moreQ_bd xs (s := s) hno i
    have hb2 := partQ_bd xs (i * n) n
    obtain ⟨g, o, rfl, hcell⟩ := hB i (szV xs n i) (by simp [hlt])
    refine sA [] rfl ?_
    refine ev_indexAddr rfl rfl tabOk rfl rfl rfl (by omega) (by omega) ?_
    rw [show o + (i : Int).toNat * 1 = o + i by omega]
    refine ev_load rfl rfl tabOk rfl rfl hcell ?_
    refine sA [] rfl ?_; refine ev_arith rfl rfl rfl rfl rfl (by simp only [lowK, hiK]; omega) ?_; refine sA [] rfl ?_
    refine ev_call rfl rfl rfl (refRound (127 * partQ xs (i * n) n) s w2 (by constructor <;> omega) (by omega)) ?_
    rintro r w3 ⟨rfl, rfl⟩
    refine sC [] rfl ?_; refine sC [] rfl ?_; refine sC [] rfl ?_
    refine ev_condD rfl (fun c3 => ?_) (fun c3 => ?_)
    · have em : moreQ xs n s (i + 1) = roundQ (127 * partQ xs (i * n) n) s := by rw [moreQ]; exact if_pos c3
      refine sA [] rfl ?_; refine ev_arith rfl rfl rfl rfl rfl (by simp only [lowK, hiK]; omega) ?_; refine sA [] rfl ?_
      refine ev_next (i + 1) (by omega) ⟨by omega, f2, hB⟩ ⟨rfl, rfl, rfl, by rw [em]; rfl, by rw [show ((i + 1 : Nat) : Int) = (i : Int) + 1 by omega]; rfl, trivial⟩
    · have em : moreQ xs n s (i + 1) = moreQ xs n s i := by rw [moreQ]; exact if_neg c3
      refine sA [] rfl ?_; refine ev_arith rfl rfl rfl rfl rfl (by simp only [lowK, hiK]; omega) ?_; refine sA [] rfl ?_
      refine ev_next (i + 1) (by omega) ⟨by omega, f2, hB⟩ ⟨rfl, rfl, rfl, by rw [em]; rfl, by rw [show ((i + 1 : Nat) : Int) = (i : Int) + 1 by omega]; rfl, trivial⟩
  · obtain rfl : i = q := by omega
    refine sA [] rfl ?_
    exact ret1 (.inr rfl) rfl rfl ⟨rfl, f2⟩
theorem refMostI (r : Rw) (n s q : Int) (w : World) (hA : r.At w) (h1 : 1 ≤ n ∧ n ≤ 256) (hq : 0 ≤ q ∧ q ≤ 256) (hxs : (r.xs.length : Int) = q * n) (hcap : r.xs.length ≤ r.c) (hs : 0 ≤ s ∧ s ≤ 31) :
    CallsF Try.prog 76 [r.v, i64 n, i64 s] w fun u w' => u = i64 (moreQ r.xs n.toNat s.toNat q.toNat) ∧ Fr no w w' := by
  obtain ⟨n, rfl⟩ := Int.eq_ofNat_of_zero_le (show 0 ≤ n by omega)
  obtain ⟨s, rfl⟩ := Int.eq_ofNat_of_zero_le hs.1
  obtain ⟨q, rfl⟩ := Int.eq_ofNat_of_zero_le hq.1
  have hx : r.xs.length = q * n := by exact_mod_cast hxs
  have hb : q * n ≤ 256 * 256 := Nat.mul_le_mul (by omega) (by omega)
  exact refMost r.A r.xs r.c n q s w hA (by omega) hx (by omega) hcap (by omega) (by omega)
end Go.Wk.Ytdelgnflcfhhkaa
namespace Go.Wk.Ytdelgnflcfhhkaa
open Go Go.Wk Go.Proofs
theorem lenQ_bad {n : Int} {l : List (List Int8)} {x : List Int8} (h : x ∈ l) (hb : ¬ (x.length : Int) = n) : lenQ n l = false := by
  unfold lenQ; rw [List.all_eq_false]; exact ⟨x, h, by simpa using hb⟩
theorem block_bad {s : Shp} {b : Bk (List Int8)} (h : lenQ s.dim [b.g1, b.g2] = false ∨ lenQ (s.dim * s.dim) [b.q, b.k, b.v, b.o] = false ∨ lenQ (s.dim * s.hid) [b.ga, b.up, b.dn] = false) : blockQ s b = 161 := by
  unfold blockQ
  split
  · rfl
  split
  · rfl
  split
  · rfl
  rename_i h1 h2 h3
  exact absurd h (fun h => h.elim h1 (fun h => h.elim h2 h3))
theorem block_good {s : Shp} {b : Bk (List Int8)} (h1 : lenQ s.dim [b.g1, b.g2] = true) (h2 : lenQ (s.dim * s.dim) [b.q, b.k, b.v, b.o] = true) (h3 : lenQ (s.dim * s.hid) [b.ga, b.up, b.dn] = true) :
    blockQ s b = if shiftQ [b.qs, b.ks, b.vs, b.os, b.ss, b.gas, b.ups, b.dns] = false then 162 else 0 := by
  unfold blockQ
  rw [if_neg (by rw [h1]; simp), if_neg (by rw [h2]; simp), if_neg (by rw [h3]; simp)]
set_option maxHeartbeats 8000000 in
theorem refBlock (s : Shp) (b : Bk Rw) (w : World) (hd : 0 ≤ s.dim ∧ s.dim ≤ 1000000) (hh : 0 ≤ s.hid ∧ s.hid ≤ 1000000) :
    CallsF Try.prog 75 [shpV s, bkV b] w fun r w' => r = i64 (blockQ s (pBk b)) ∧ Fr no w w' := by
  have hm1 := mul_bd hd.1 hd.2 hd.1 hd.2
  have hm2 := mul_bd hh.1 hh.2 hd.1 hd.2
  have hm3 := mul_bd hd.1 hd.2 hh.1 hh.2
  have hc : s.hid * s.dim = s.dim * s.hid := Int.mul_comm ..
  refine callsF Try.func75 rfl rfl (by decide) rfl ?_
  refine sA [] rfl ?_
  refine ev_box rfl rfl rfl fun p w1 hp kp f1 => ?_
  refine ev_box rfl rfl rfl fun q w2 hq kq f2 => ?_
  have kp2 : Blk w2 p (shpC s) _ := kp.fr0 f2
  have kq2 : Blk w2 q (bkC b) _ := kq
  have hF2 := f1.tr f2
  clear kp kq
  refine sA [] rfl ?_
  refine ev_draw mixed (by kernel_rfl) ?_
  refine qA rfl ?_; refine q_loadB rfl rfl tabOk rfl rfl ‹_› (by rfl) ?_; refine qA rfl ?_; refine q_loadB rfl rfl tabOk rfl rfl ‹_› (by rfl) ?_; refine qA rfl ?_
  refine q_end fun w3 f3 => ?_
  have kq := kq2.fr0 f3
  have hF := hF2.tr f3
  clear kp2 kq2
  refine sA [] rfl ?_; refine ev_loadB rfl rfl tabOk rfl rfl ‹_› (by rfl) ?_; refine sC [] rfl ?_
  by_cases c_g1 : (b.g1.xs.length : Int) = s.dim
  rotate_left
  · rw [show decide (¬ (b.g1.xs.length : Int) = s.dim) = true from decide_eq_true c_g1]
    refine sA [] rfl ?_
    exact ret1 (.inr rfl) rfl rfl ⟨by rw [block_bad (.inl (lenQ_bad (x := (pBk b).g1) (by simp) (fun h => c_g1 h)))], hF⟩
  rw [show decide (¬ (b.g1.xs.length : Int) = s.dim) = false from decide_eq_false fun h => h c_g1]
  refine sA [] rfl ?_; refine ev_loadB rfl rfl tabOk rfl rfl ‹_› (by rfl) ?_; refine sC [] rfl ?_; refine sD [] rfl ?_
  by_cases c_g2 : (b.g2.xs.length : Int) = s.dim
  rotate_left
  · rw [show decide (¬ (b.g2.xs.length : Int) = s.dim) = true from decide_eq_true c_g2]
    refine sA [] rfl ?_
    exact ret1 (.inr rfl) rfl rfl ⟨by rw [block_bad (.inl (lenQ_bad (x := (pBk b).g2) (by simp) (fun h => c_g2 h)))], hF⟩
  rw [show decide (¬ (b.g2.xs.length : Int) = s.dim) = false from decide_eq_false fun h => h c_g2]
  refine sA [] rfl ?_; refine ev_loadB rfl rfl tabOk rfl rfl ‹_› (by rfl) ?_; refine sA [] rfl ?_; refine ev_arith rfl rfl rfl rfl rfl (by simp only [lowK, hiK]; omega) ?_; refine sD [] rfl ?_; refine sD [] rfl ?_; refine sD [] rfl ?_
  by_cases c_q : (b.q.xs.length : Int) = s.dim * s.dim
  rotate_left
  · rw [show decide (¬ (b.q.xs.length : Int) = s.dim * s.dim) = true from decide_eq_true c_q]
    refine sA [] rfl ?_
    exact ret1 (.inr rfl) rfl rfl ⟨by rw [block_bad (.inr (.inl (lenQ_bad (x := (pBk b).q) (by simp) (fun h => c_q h))))], hF⟩
  rw [show decide (¬ (b.q.xs.length : Int) = s.dim * s.dim) = false from decide_eq_false fun h => h c_q]
  refine sA [] rfl ?_; refine ev_loadB rfl rfl tabOk rfl rfl ‹_› (by rfl) ?_; refine sA [] rfl ?_; refine ev_arith rfl rfl rfl rfl rfl (by simp only [lowK, hiK]; omega) ?_; refine sD [] rfl ?_; refine sD [] rfl ?_; refine sD [] rfl ?_
  by_cases c_k : (b.k.xs.length : Int) = s.dim * s.dim
  rotate_left
  · rw [show decide (¬ (b.k.xs.length : Int) = s.dim * s.dim) = true from decide_eq_true c_k]
    refine sA [] rfl ?_
    exact ret1 (.inr rfl) rfl rfl ⟨by rw [block_bad (.inr (.inl (lenQ_bad (x := (pBk b).k) (by simp) (fun h => c_k h))))], hF⟩
  rw [show decide (¬ (b.k.xs.length : Int) = s.dim * s.dim) = false from decide_eq_false fun h => h c_k]
  refine sA [] rfl ?_; refine ev_loadB rfl rfl tabOk rfl rfl ‹_› (by rfl) ?_; refine sA [] rfl ?_; refine ev_arith rfl rfl rfl rfl rfl (by simp only [lowK, hiK]; omega) ?_; refine sD [] rfl ?_; refine sD [] rfl ?_; refine sD [] rfl ?_
  by_cases c_v : (b.v.xs.length : Int) = s.dim * s.dim
  rotate_left
  · rw [show decide (¬ (b.v.xs.length : Int) = s.dim * s.dim) = true from decide_eq_true c_v]
    refine sA [] rfl ?_
    exact ret1 (.inr rfl) rfl rfl ⟨by rw [block_bad (.inr (.inl (lenQ_bad (x := (pBk b).v) (by simp) (fun h => c_v h))))], hF⟩
  rw [show decide (¬ (b.v.xs.length : Int) = s.dim * s.dim) = false from decide_eq_false fun h => h c_v]
  refine sA [] rfl ?_; refine ev_loadB rfl rfl tabOk rfl rfl ‹_› (by rfl) ?_; refine sA [] rfl ?_; refine ev_arith rfl rfl rfl rfl rfl (by simp only [lowK, hiK]; omega) ?_; refine sD [] rfl ?_; refine sD [] rfl ?_; refine sD [] rfl ?_
  by_cases c_o : (b.o.xs.length : Int) = s.dim * s.dim
  rotate_left
  · rw [show decide (¬ (b.o.xs.length : Int) = s.dim * s.dim) = true from decide_eq_true c_o]
    refine sA [] rfl ?_
    exact ret1 (.inr rfl) rfl rfl ⟨by rw [block_bad (.inr (.inl (lenQ_bad (x := (pBk b).o) (by simp) (fun h => c_o h))))], hF⟩
  rw [show decide (¬ (b.o.xs.length : Int) = s.dim * s.dim) = false from decide_eq_false fun h => h c_o]
  refine sA [] rfl ?_; refine ev_loadB rfl rfl tabOk rfl rfl ‹_› (by rfl) ?_; refine sA [] rfl ?_; refine ev_arith rfl rfl rfl rfl rfl (by simp only [lowK, hiK]; omega) ?_; refine sD [] rfl ?_; refine sD [] rfl ?_
  by_cases c_ga : (b.ga.xs.length : Int) = s.hid * s.dim
  rotate_left
  · rw [show decide (¬ (b.ga.xs.length : Int) = s.hid * s.dim) = true from decide_eq_true c_ga]
    refine sA [] rfl ?_
    exact ret1 (.inr rfl) rfl rfl ⟨by rw [block_bad (.inr (.inr (lenQ_bad (x := (pBk b).ga) (by simp) (fun h => c_ga (by rw [hc]; exact h)))))], hF⟩
  rw [show decide (¬ (b.ga.xs.length : Int) = s.hid * s.dim) = false from decide_eq_false fun h => h c_ga]
  refine sA [] rfl ?_; refine ev_loadB rfl rfl tabOk rfl rfl ‹_› (by rfl) ?_; refine sA [] rfl ?_; refine ev_arith rfl rfl rfl rfl rfl (by simp only [lowK, hiK]; omega) ?_; refine sD [] rfl ?_; refine sD [] rfl ?_; refine sD [] rfl ?_
  by_cases c_up : (b.up.xs.length : Int) = s.hid * s.dim
  rotate_left
  · rw [show decide (¬ (b.up.xs.length : Int) = s.hid * s.dim) = true from decide_eq_true c_up]
    refine sA [] rfl ?_
    exact ret1 (.inr rfl) rfl rfl ⟨by rw [block_bad (.inr (.inr (lenQ_bad (x := (pBk b).up) (by simp) (fun h => c_up (by rw [hc]; exact h)))))], hF⟩
  rw [show decide (¬ (b.up.xs.length : Int) = s.hid * s.dim) = false from decide_eq_false fun h => h c_up]
  refine sA [] rfl ?_; refine ev_loadB rfl rfl tabOk rfl rfl ‹_› (by rfl) ?_; refine sA [] rfl ?_; refine ev_arith rfl rfl rfl rfl rfl (by simp only [lowK, hiK]; omega) ?_; refine sD [] rfl ?_; refine sD [] rfl ?_; refine sD [] rfl ?_
  by_cases c_dn : (b.dn.xs.length : Int) = s.dim * s.hid
  rotate_left
  · rw [show decide (¬ (b.dn.xs.length : Int) = s.dim * s.hid) = true from decide_eq_true c_dn]
    refine sA [] rfl ?_
    exact ret1 (.inr rfl) rfl rfl ⟨by rw [block_bad (.inr (.inr (lenQ_bad (x := (pBk b).dn) (by simp) (fun h => c_dn h))))], hF⟩
  rw [show decide (¬ (b.dn.xs.length : Int) = s.dim * s.hid) = false from decide_eq_false fun h => h c_dn]
  refine sA [] rfl ?_; refine ev_loadB rfl rfl tabOk rfl rfl ‹_› (by rfl) ?_; refine sA [] rfl ?_; refine ev_loadB rfl rfl tabOk rfl rfl ‹_› (by rfl) ?_; refine sA [] rfl ?_; refine ev_loadB rfl rfl tabOk rfl rfl ‹_› (by rfl) ?_; refine sA [] rfl ?_; refine ev_loadB rfl rfl tabOk rfl rfl ‹_› (by rfl) ?_; refine sA [] rfl ?_; refine ev_loadB rfl rfl tabOk rfl rfl ‹_› (by rfl) ?_; refine sA [] rfl ?_; refine ev_loadB rfl rfl tabOk rfl rfl ‹_› (by rfl) ?_; refine sA [] rfl ?_; refine ev_loadB rfl rfl tabOk rfl rfl ‹_› (by rfl) ?_; refine sA [] rfl ?_; refine ev_loadB rfl rfl tabOk rfl rfl ‹_› (by rfl) ?_
  rw [block_good (s := s) (b := pBk b) (by simpa [lenQ, Bk.map] using ⟨c_g1, c_g2⟩) (by simpa [lenQ, Bk.map] using ⟨c_q, c_k, c_v, c_o⟩) (by rw [hc] at c_ga c_up; simpa [lenQ, Bk.map] using ⟨c_ga, c_up, c_dn⟩)]
  refine ev_buildSlice tabOk rfl rfl rfl inf3 rfl rfl rfl (fun v hv => by simp at hv; rcases hv with rfl | rfl | rfl | rfl | rfl | rfl | rfl | rfl <;> rfl) rfl (fun g4 wb hg4 hb4 fb => ?_)
  have hFb := hF.tr fb
  obtain ⟨l, hl⟩ : ∃ l : List Int, l = [b.qs, b.ks, b.vs, b.os, b.ss, b.gas, b.ups, b.dns] := ⟨_, rfl⟩
  have hl8 : l.length = 8 := by rw [hl]; rfl
  have hcs : Cs wb (some ⟨g4, 0, none⟩) (l.map i64) := by rw [hl]; exact Cs.of_blk hb4
  rw [show [(pBk b).qs, (pBk b).ks, (pBk b).vs, (pBk b).os, (pBk b).ss, (pBk b).gas, (pBk b).ups, (pBk b).dns] = l from hl.symm]
  clear hb4 kq hF
  refine sA [] rfl ?_
  refine ev_loop (α := Nat) (fun y => [(4, i64 0), (108, .slice (some ⟨g4, 0, none⟩) 8 8), (109, i64 8), (110, i64 y)]) (fun y w' => y ≤ 8 ∧ w' = wb ∧ shiftQ (l.take y) = true) (fun y => 8 - y) 0 ⟨rfl, rfl, rfl, rfl, trivial⟩ ⟨Nat.zero_le _, rfl, rfl⟩ ?_
  rintro i w' ⟨hi, rfl, hq⟩
  refine sC [] rfl ?_; refine sD [] rfl ?_
  refine ev_condD rfl (fun c => ?_) (fun c => ?_)
  · have hlt : i < l.length := by omega
    have hcell := hcs.at (j := i) (u := i64 l[i]) (by simp [List.getElem?_eq_getElem hlt])
    obtain ⟨x, hx⟩ : ∃ x, x = l[i] := ⟨_, rfl⟩
    rw [← hx] at hcell
    refine sA [] rfl ?_
    refine ev_indexAddr rfl rfl tabOk rfl rfl rfl (by omega) (by omega) ?_
    rw [show 0 + (i : Int).toNat * 1 = 0 + i by omega]
    refine ev_load rfl rfl tabOk rfl rfl hcell ?_
    refine sA [] rfl ?_
    refine ev_call rfl rfl rfl (refWithin x 0 31 _) ?_
    rintro r w4 ⟨rfl, rfl⟩
    refine sD [] rfl ?_; refine sD [] rfl ?_
    by_cases c2 : 0 ≤ x ∧ x ≤ 31
    · rw [show (!decide (0 ≤ x ∧ x ≤ 31)) = false by rw [decide_eq_true c2]; rfl]
      refine sA [] rfl ?_; refine ev_arith rfl rfl rfl rfl rfl (by simp only [lowK, hiK]; omega) ?_; refine sA [] rfl ?_
      refine ev_next (i + 1) (by omega) ⟨by omega, rfl, by rw [shiftQ_take hlt, hq, ← hx]; simpa using c2⟩ ⟨rfl, rfl, rfl, by rw [show ((i + 1 : Nat) : Int) = (i : Int) + 1 by omega]; rfl, trivial⟩
    · rw [show (!decide (0 ≤ x ∧ x ≤ 31)) = true by rw [decide_eq_false c2]; rfl]
      refine sA [] rfl ?_
      exact ret1 (.inr rfl) rfl rfl ⟨by rw [shiftQ_bad hlt (by rw [← hx]; exact c2), if_pos rfl], hFb⟩
  · obtain rfl : i = 8 := by omega
    refine sA [] rfl ?_
    exact ret1 (.inr rfl) rfl rfl ⟨by rw [show l.take 8 = l by rw [← hl8, List.take_length]] at hq; rw [hq, if_neg (by simp)], hFb⟩
end Go.Wk.Ytdelgnflcfhhkaa
