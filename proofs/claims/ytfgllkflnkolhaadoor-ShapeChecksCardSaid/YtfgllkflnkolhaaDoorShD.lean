/-
  Chapter 16: sines, tables of angles; numbers one by one; levels.
-/
import Derived.Test.YtfgllkflnkolhaaDoorShC
set_option linter.unusedVariables false
namespace Go.Wk.YtfgllkflnkolhaaDoor
open Go Go.Wk Go.Proofs

def sinT : List Int := [0, 2, 3, 5, 6, 8, 9, 11, 12, 14, 16, 17, 19, 20, 22, 23, 24, 26, 27, 29, 30, 32, 33, 34, 36, 37, 38, 39, 41, 42, 43, 44, 45, 46, 47, 48, 49, 50, 51, 52, 53, 54, 55, 56, 56, 57, 58, 59, 59, 60, 60, 61, 61, 62, 62, 62, 63, 63, 63, 64, 64, 64, 64, 64, 64]
theorem sinT_bd (i : Nat) : 0 ≤ sinT.getD i 0 ∧ sinT.getD i 0 ≤ 64 := by
  rcases Nat.lt_or_ge i 65 with h | h
  · have key : ∀ i : Fin 65, 0 ≤ sinT.getD i.val 0 ∧ sinT.getD i.val 0 ≤ 64 := by decide
    exact key ⟨i, h⟩
  · rw [List.getD_eq_getElem?_getD, List.getElem?_eq_none (show sinT.length ≤ i from h)]
    exact ⟨by decide, by decide⟩
/-- the place of an angle in the table -/
def sinM (r : Int) : Int := if 128 - r % 128 < r % 128 then 128 - r % 128 else r % 128
theorem sinM_bd (r : Int) : 0 ≤ sinM r ∧ sinM r ≤ 64 := by unfold sinM; split <;> omega
def sineQ (a : Int) : Int := if 128 ≤ a % 256 then -sinT.getD (sinM (a % 256)).toNat 0 else sinT.getD (sinM (a % 256)).toNat 0
theorem sineQ_bd (a : Int) : -64 ≤ sineQ a ∧ sineQ a ≤ 64 := by
  have := sinT_bd (sinM (a % 256)).toNat
  unfold sineQ; split <;> omega
theorem sineQ_mod {a b : Int} (h : a % 256 = b % 256) : sineQ a = sineQ b := by unfold sineQ; rw [h]
/-- the table of sines lies where the program's text laid it -/
def QT (w : World) : Prop := ∀ i, i < 65 → w.cell? ⟨0, i, none⟩ = some (.int .i8 (sinT.getD i 0))
theorem QT.fr {S : Nat → Prop} {w w' : World} (h : QT w) (hf : Fr S w w') (h0 : ¬ S 0) : QT w' := fun i hi => cell_fr (h i hi) hf h0
theorem QT.fr0 {w w' : World} (h : QT w) (hf : Fr no w w') : QT w' := h.fr hf id
theorem QT.lt {w : World} (h : QT w) : 0 < w.heap.size := Go.Wk.cell_lt (h 0 (by omega))

theorem wSine (a : Int) (w : World) (h0 : 0 ≤ a) (h1 : a ≤ 1000000000) (hT : QT w) : CallsF Tryd.prog 66 [i64 a] w fun r w' => r = .int .i8 (sineQ a) ∧ w' = w := by
  have hb := sinM_bd (a % 256)
  have hm := hT (sinM (a % 256)).toNat (by omega)
  have ht := sinT_bd (sinM (a % 256)).toNat
  have hQ : sineQ a = if 128 ≤ a % 256 then -sinT.getD (sinM (a % 256)).toNat 0 else sinT.getD (sinM (a % 256)).toNat 0 := rfl
  refine callsF Tryd.func66 rfl rfl (by decide) rfl ?_
  refine sA [] rfl ?_; refine ev_rem rfl rfl rfl rfl (by omega) (by omega) ?_; refine ev_arith rfl rfl rfl rfl rfl (by simp only [lowK, hiK]; omega) ?_; refine ev_rem rfl rfl rfl rfl (by omega) (by omega) ?_; refine sA [] rfl ?_; refine ev_rem rfl rfl rfl rfl (by omega) (by omega) ?_; refine sA [] rfl ?_; refine ev_rem rfl rfl rfl rfl (by omega) (by omega) ?_; refine ev_arith rfl rfl rfl rfl rfl (by simp only [lowK, hiK]; omega) ?_; refine sA [] rfl ?_
  rw [show (a % 256 + 256) % 256 = a % 256 by omega]
  rw [show (if 128 - a % 256 % 128 < a % 256 % 128 then 128 - a % 256 % 128 else a % 256 % 128) = sinM (a % 256) from rfl]
  refine ev_indexAddrP rfl rfl tabOk rfl rfl rfl (by omega) (by omega) ?_
  rw [show 0 + (sinM (a % 256)).toNat * 1 = (sinM (a % 256)).toNat by omega]
  refine ev_load rfl rfl tabOk rfl rfl hm ?_
  obtain ⟨y, hy⟩ : ∃ y, y = sinT.getD (sinM (a % 256)).toNat 0 := ⟨_, rfl⟩
  rw [← hy] at ht hQ ⊢
  clear hm
  refine sC [] rfl ?_; refine sC [] rfl ?_
  refine ev_condD rfl (fun c => ?_) (fun c => ?_)
  · rw [if_pos c] at hQ
    refine sA [] rfl ?_
    rw [show IntKind.i8.wrap (0 - y) = -y from (wrapK (by simp only [lowK, hiK]; omega)).trans (by omega)]
    exact ret1 (.inr rfl) rfl rfl ⟨by rw [hQ], rfl⟩
  · rw [if_neg c] at hQ
    refine sA [] rfl ?_
    exact ret1 (.inr rfl) rfl rfl ⟨by rw [hQ], rfl⟩
set_option maxRecDepth 20000 in
theorem refSine (a : Int) (w : World) (h0 : 0 ≤ a) (h1 : a ≤ 1000000000) : CallsF Tryd.prog 63 [i64 a] w fun r w' => r = .int .i8 (sineQ a) ∧ Fr no w w' := by
  have hr : 0 ≤ a % 256 ∧ a % 256 < 256 := by omega
  have hQ : sineQ a = if 128 ≤ a % 256 then -sinT.getD (sinM (a % 256)).toNat 0 else sinT.getD (sinM (a % 256)).toNat 0 := rfl
  have hM : sinM (a % 256) = if 128 - a % 256 % 128 < a % 256 % 128 then 128 - a % 256 % 128 else a % 256 % 128 := rfl
  refine callsF Tryd.func63 rfl rfl (by decide) rfl ?_
  refine sA [] rfl ?_
  refine ev_buildSlice tabOk rfl rfl rfl inf56 rfl rfl rfl (by simp [Value.cells]) rfl (fun g w1 hg hb hf => ?_)
  have hb : Blk w1 g (sinT.map fun n => .int .i8 n) 56 := hb
  have hc : ∀ m : Int, 0 ≤ m → m ≤ 64 → w1.cell? ⟨g, 0 + m.toNat * 1, none⟩ = some (.int .i8 (sinT.getD m.toNat 0)) := fun m h0 h1 => by
    rw [show 0 + m.toNat * 1 = m.toNat by omega]
    refine hb.cell ?_
    rw [nthV_eq, List.getElem?_map, List.getD_eq_getElem?_getD, List.getElem?_eq_getElem (show m.toNat < sinT.length by show m.toNat < 65; omega)]; rfl
  clear hb
  obtain ⟨r, hr0⟩ : ∃ r, r = a % 256 := ⟨_, rfl⟩
  rw [← hr0] at hr hQ hM
  refine sA [] rfl ?_; refine ev_rem rfl rfl rfl rfl (by omega) (by omega) ?_; refine sC [] rfl ?_; refine sC [] rfl ?_
  rw [← hr0]
  rw [show decide (r < 0) = false from decide_eq_false (by omega)]
  refine sC [] rfl ?_; refine sC [] rfl ?_
  refine ev_condD rfl (fun c1 => ?_) (fun c1 => ?_)
  · have e : sineQ a = sinT.getD r.toNat 0 := by rw [hQ, if_neg (by omega), hM, if_neg (by omega), show r % 128 = r by omega]
    refine sA [] rfl ?_
    refine ev_indexAddr (len := 65) (i := r) rfl rfl tabOk rfl rfl rfl (by omega) (by omega) ?_
    refine ev_load rfl rfl tabOk rfl rfl (hc r (by omega) (by omega)) ?_
    refine sA [] rfl ?_
    exact ret1 (.inr rfl) rfl rfl ⟨by rw [e], hf⟩
  refine sC [] rfl ?_; refine sD [] rfl ?_; refine sD [] rfl ?_; refine sD [] rfl ?_
  refine ev_condD rfl (fun c2 => ?_) (fun c2 => ?_)
  · have e : sineQ a = sinT.getD (128 - r).toNat 0 := by
      by_cases z : r = 128
      · rw [hQ, hM, z]; rfl
      · rw [hQ, if_neg (by omega), hM, if_pos (by omega), show 128 - r % 128 = 128 - r by omega]
    refine sA [] rfl ?_; refine ev_arith rfl rfl rfl rfl rfl (by simp only [lowK, hiK]; omega) ?_
    refine ev_indexAddr (len := 65) (i := 128 - r) rfl rfl tabOk rfl rfl rfl (by omega) (by omega) ?_
    refine ev_load rfl rfl tabOk rfl rfl (hc (128 - r) (by omega) (by omega)) ?_
    refine sA [] rfl ?_
    exact ret1 (.inr rfl) rfl rfl ⟨by rw [e], hf⟩
  refine sC [] rfl ?_; refine sD [] rfl ?_; refine sD [] rfl ?_; refine sD [] rfl ?_
  refine ev_condD rfl (fun c3 => ?_) (fun c3 => ?_)
  · have e : sineQ a = -sinT.getD (r - 128).toNat 0 := by rw [hQ, if_pos (by omega), hM, if_neg (by omega), show r % 128 = r - 128 by omega]
    have ht := sinT_bd (r - 128).toNat
    refine sA [] rfl ?_; refine ev_arith rfl rfl rfl rfl rfl (by simp only [lowK, hiK]; omega) ?_
    refine ev_indexAddr (len := 65) (i := r - 128) rfl rfl tabOk rfl rfl rfl (by omega) (by omega) ?_
    refine ev_load rfl rfl tabOk rfl rfl (hc (r - 128) (by omega) (by omega)) ?_
    refine sA [] rfl ?_
    rw [show IntKind.i8.wrap (0 - sinT.getD (r - 128).toNat 0) = -sinT.getD (r - 128).toNat 0 from (wrapK (by simp only [lowK, hiK]; omega)).trans (by omega)]
    exact ret1 (.inr rfl) rfl rfl ⟨by rw [e], hf⟩
  · have e : sineQ a = -sinT.getD (256 - r).toNat 0 := by rw [hQ, if_pos (by omega), hM, if_pos (by omega), show 128 - r % 128 = 256 - r by omega]
    have ht := sinT_bd (256 - r).toNat
    refine sA [] rfl ?_; refine ev_arith rfl rfl rfl rfl rfl (by simp only [lowK, hiK]; omega) ?_
    refine ev_indexAddr (len := 65) (i := 256 - r) rfl rfl tabOk rfl rfl rfl (by omega) (by omega) ?_
    refine ev_load rfl rfl tabOk rfl rfl (hc (256 - r) (by omega) (by omega)) ?_
    refine sA [] rfl ?_
    rw [show IntKind.i8.wrap (0 - sinT.getD (256 - r).toNat 0) = -sinT.getD (256 - r).toNat 0 from (wrapK (by simp only [lowK, hiK]; omega)).trans (by omega)]
    exact ret1 (.inr rfl) rfl rfl ⟨by rw [e], hf⟩
theorem sine_v (a : Int) : Value.int .i8 (sineQ a) = i8v (Int8.ofInt (sineQ a)) := i8_of (by have := sineQ_bd a; omega)

/-- the angles of a place -/
def angQ (p i : Nat) : Int := 64 * (p : Int) / 2 ^ i
theorem angQ_bd (p i : Nat) : 0 ≤ angQ p i ∧ angQ p i ≤ 64 * p := by
  have := (ediv_bd (x := 64 * (p : Int)) (d := 2 ^ i) (by have := Int.pow_pos (n := 2) (m := i) (by omega); omega)).1 (by omega)
  exact this
def cosR (p h : Nat) : List Int8 := (List.range h).map fun i => Int8.ofInt (sineQ (angQ p i + 64))
def sinR (p h : Nat) : List Int8 := (List.range h).map fun i => Int8.ofInt (sineQ (angQ p i))
def cosF (n h : Nat) : List Int8 := (List.range n).flatMap fun p => cosR p h
def sinF (n h : Nat) : List Int8 := (List.range n).flatMap fun p => sinR p h
theorem cosR_succ (p i : Nat) : cosR p (i + 1) = cosR p i ++ [Int8.ofInt (sineQ (angQ p i + 64))] := by unfold cosR; rw [List.range_succ, List.map_append]; rfl
theorem sinR_succ (p i : Nat) : sinR p (i + 1) = sinR p i ++ [Int8.ofInt (sineQ (angQ p i))] := by unfold sinR; rw [List.range_succ, List.map_append]; rfl
theorem cosF_succ (n h : Nat) : cosF (n + 1) h = cosF n h ++ cosR n h := by unfold cosF; rw [List.range_succ, List.flatMap_append]; simp
theorem sinF_succ (n h : Nat) : sinF (n + 1) h = sinF n h ++ sinR n h := by unfold sinF; rw [List.range_succ, List.flatMap_append]; simp
theorem cosF_len (n h : Nat) : (cosF n h).length = n * h := by
  induction n with
  | zero => simp [cosF]
  | succ n ih => rw [cosF_succ, List.length_append, ih, Nat.succ_mul]; simp [cosR]
theorem sinF_len (n h : Nat) : (sinF n h).length = n * h := by
  induction n with
  | zero => simp [sinF]
  | succ n ih => rw [sinF_succ, List.length_append, ih, Nat.succ_mul]; simp [sinR]
/-- two rows that grow side by side -/
def T8 (w0 w : World) (v : Value) (xs : List Int8) (u : Value) (ys : List Int8) : Prop := N8 w0 w v xs ∧ N8 w0 w u ys ∧ ∀ g, v.ownBlock = some g → u.ownBlock ≠ some g
theorem T8.swap {w0 w : World} {v u : Value} {xs ys : List Int8} (h : T8 w0 w v xs u ys) : T8 w0 w u ys v xs := ⟨h.2.1, h.1, fun g hg e => h.2.2 g e hg⟩
theorem T8.fr {w0 w w' : World} {v u : Value} {xs ys : List Int8} (h : T8 w0 w v xs u ys) (hf : Fr no w w') : T8 w0 w' v xs u ys := ⟨h.1.fr hf, h.2.1.fr hf, h.2.2⟩
theorem T8.app {w0 w w' : World} {v v' u : Value} {xs ys zs : List Int8} (h : T8 w0 w v xs u ys) (ho : Own w' 56 1 v' (xs.length + zs.length) (xs.map i8v ++ zs.map i8v)) (hf : Fr (fun q => v.ownBlock = some q) w w') (hn : NB w v v') : T8 w0 w' v' (xs ++ zs) u ys := by
  have h1 := h.1.app ho hf hn
  refine ⟨h1, ⟨h.2.1.1.fr hf fun g hg z => h.2.2 g z hg, h.2.1.2.1, h1.2.2⟩, fun g hg e => ?_⟩
  rcases hn g hg with z | z
  · exact h.2.2 g z e
  · have := h.2.1.1.lt e; omega
set_option maxHeartbeats 2000000 in
theorem wRopeTable (n h : Nat) (w : World) (hn : 1 ≤ n ∧ n ≤ 512) (hh : 1 ≤ h ∧ h ≤ 32) (hT : QT w) : CallsF Tryd.prog 48 [i64 n, i64 h] w fun r w' => ∃ v u, r = .tuple #[v, u, i64 0] ∧ T8 w w' v (cosF n h) u (sinF n h) := by
  have h0 := hT.lt
  refine callsF Tryd.func48 rfl rfl (by decide) rfl ?_
  refine sC [] rfl ?_; refine sC [] rfl ?_; refine sC [] rfl ?_
  rw [show decide ((n : Int) < 1) = false from decide_eq_false (by omega)]
  refine sC [] rfl ?_
  rw [show decide ((512 : Int) < n) = false from decide_eq_false (by omega)]
  refine sC [] rfl ?_
  rw [show decide ((h : Int) < 1) = false from decide_eq_false (by omega)]
  refine sC [] rfl ?_
  rw [show decide ((32 : Int) < h) = false from decide_eq_false (by omega)]
  refine sA [] rfl ?_
  have hN0 : T8 w w (.slice none 0 0) (cosF 0 h) (.slice none 0 0) (sinF 0 h) := ⟨⟨Own.nil _ _ _, (fun g hg => by cases hg), Fr.refl _ _⟩, ⟨Own.nil _ _ _, (fun g hg => by cases hg), Fr.refl _ _⟩, (fun g hg => by cases hg)⟩
  refine ev_loop (α := Nat × Value × Value) (fun y => [(0, i64 n), (1, i64 h), (7, y.2.1), (8, y.2.2), (26, i64 n), (27, i64 y.1)]) (fun y w' => y.1 ≤ n ∧ T8 w w' y.2.1 (cosF y.1 h) y.2.2 (sinF y.1 h)) (fun y => n - y.1) (0, _, _) ⟨rfl, rfl, rfl, rfl, rfl, rfl, trivial⟩ ⟨Nat.zero_le _, hN0⟩ ?_
  clear hN0
  rintro ⟨p, v, u⟩ w1 ⟨hp, hN⟩
  simp only at hp hN
  refine sC [] rfl ?_; refine sD [] rfl ?_
  refine ev_condD rfl (fun c => ?_) (fun c => ?_)
  · have hp : p < n := by omega
    have hmul : p * h ≤ 512 * 32 := Nat.mul_le_mul (by omega) (by omega)
    have hlc := cosF_len p h
    have hls := sinF_len p h
    refine sA [] rfl ?_
    refine ev_loop (α := Nat × Value × Value) (fun y => [(0, i64 n), (1, i64 h), (7, y.2.1), (8, y.2.2), (9, i64 p), (26, i64 n), (27, i64 p), (30, i64 h), (31, i64 y.1)]) (fun y w' => y.1 ≤ h ∧ T8 w w' y.2.1 (cosF p h ++ cosR p y.1) y.2.2 (sinF p h ++ sinR p y.1)) (fun y => h - y.1) (0, v, u) ⟨rfl, rfl, rfl, rfl, rfl, rfl, rfl, rfl, rfl, trivial⟩ ⟨Nat.zero_le _, by
      have e1 : cosR p 0 = [] := rfl
      have e2 : sinR p 0 = [] := rfl
      simp only [e1, e2, List.append_nil]; exact hN⟩ ?_
    clear hN
    rintro ⟨i, v1, u1⟩ w2 ⟨hi, hN⟩
    simp only at hi hN
    have hlR : (cosR p i).length = i := by simp [cosR]
    have hlS : (sinR p i).length = i := by simp [sinR]
    refine sC [] rfl ?_; refine sD [] rfl ?_
    refine ev_condD rfl (fun c2 => ?_) (fun c2 => ?_)
    · have hi : i < h := by omega
      have hab := angQ_bd p i
      have hT2 := hT.fr0 hN.1.2.2
      refine sA [] rfl ?_; refine ev_arith rfl rfl rfl rfl rfl (by simp only [lowK, hiK]; omega) ?_; refine sD [] rfl ?_
      refine ev_y rfl rfl (y_shr rfl rfl (by omega) (by show (i : Int) ≤ ((64 : Nat) : Int); omega)) ?_
      rw [show (64 * (p : Int)).fdiv (2 ^ ((i : Nat) : Int).toNat) = angQ p i by rw [Int.toNat_natCast, Int.fdiv_eq_ediv_of_nonneg _ (Int.le_of_lt (Int.pow_pos (by omega)))]; rfl]
      refine sA [] rfl ?_; refine ev_rem rfl rfl rfl rfl (by omega) (by omega) ?_; refine ev_arith rfl rfl rfl rfl rfl (by simp only [lowK, hiK]; omega) ?_
      refine ev_call rfl rfl rfl (wSine (angQ p i % 256 + 64) _ (by omega) (by omega) hT2) (fun r w3 hr => ?_)
      obtain ⟨rfl, rfl⟩ := hr
      rw [sineQ_mod (show (angQ p i % 256 + 64) % 256 = (angQ p i + 64) % 256 by omega), sine_v]
      refine ev_append1 tabOk rfl rfl (fun _ => rfl) rfl rfl inf56 rfl (by omega) (fun _ => rfl) rfl rfl (by simp [Value.cells]) (by simp [flatV, Value.cells, Value.oneCell']) rfl hN.1.1 (by rw [List.length_append]; omega) (fun v4 w4 g ho4 hf4 hn4 => ?_)
      have hN4 := hN.app (zs := [Int8.ofInt (sineQ (angQ p i + 64))]) ho4 hf4 hn4
      rw [List.append_assoc, ← cosR_succ] at hN4
      have hT4 := hT.fr0 hN4.1.2.2
      clear hN
      refine sA [] rfl ?_
      refine ev_call rfl rfl rfl (wSine (angQ p i) _ (by omega) (by omega) hT4) (fun r w5 hr => ?_)
      obtain ⟨rfl, rfl⟩ := hr
      rw [sine_v]
      refine ev_append1 tabOk rfl rfl (fun _ => rfl) rfl rfl inf56 rfl (by omega) (fun _ => rfl) rfl rfl (by simp [Value.cells]) (by simp [flatV, Value.cells, Value.oneCell']) rfl hN4.2.1.1 (by rw [List.length_append]; omega) (fun v6 w6 g6 ho6 hf6 hn6 => ?_)
      have hN6 := (hN4.swap.app (zs := [Int8.ofInt (sineQ (angQ p i))]) ho6 hf6 hn6).swap
      rw [List.append_assoc, ← sinR_succ] at hN6
      refine sA [] rfl ?_; refine ev_arith rfl rfl rfl rfl rfl (by simp only [lowK, hiK]; omega) ?_; refine sA [] rfl ?_
      exact ev_next (i + 1, v4, v6) (by simp only; omega) ⟨hi, hN6⟩ ⟨rfl, rfl, rfl, rfl, rfl, rfl, rfl, rfl, by rw [show ((i + 1 : Nat) : Int) = (i : Int) + 1 by omega]; rfl, trivial⟩
    · obtain rfl : i = h := by omega
      rw [← cosF_succ, ← sinF_succ] at hN
      refine sA [] rfl ?_; refine ev_arith rfl rfl rfl rfl rfl (by simp only [lowK, hiK]; omega) ?_; refine sA [] rfl ?_
      exact ev_next (p + 1, v1, u1) (by simp only; omega) ⟨hp, hN⟩ ⟨rfl, rfl, rfl, rfl, rfl, by rw [show ((p + 1 : Nat) : Int) = (p : Int) + 1 by omega]; rfl, trivial⟩
  · obtain rfl : p = n := by omega
    refine sA [] rfl ?_
    exact ret3 (.inr rfl) rfl rfl rfl rfl ⟨v, u, rfl, hN⟩
set_option maxHeartbeats 2000000 in
theorem refRopeTable (n h : Nat) (w : World) (hn : 1 ≤ n ∧ n ≤ 512) (hh : 1 ≤ h ∧ h ≤ 32) : CallsF Tryd.prog 43 [i64 n, i64 h] w fun r w' => ∃ v u, r = .tuple #[v, u, i64 0] ∧ T8 w w' v (cosF n h) u (sinF n h) := by
  refine callsF Tryd.func43 rfl rfl (by decide) rfl ?_
  refine sC [] rfl ?_; refine sC [] rfl ?_; refine sC [] rfl ?_
  rw [show decide ((n : Int) < 1) = false from decide_eq_false (by omega)]
  refine sC [] rfl ?_
  rw [show decide ((512 : Int) < n) = false from decide_eq_false (by omega)]
  refine sC [] rfl ?_
  rw [show decide ((h : Int) < 1) = false from decide_eq_false (by omega)]
  refine sC [] rfl ?_
  rw [show decide ((32 : Int) < h) = false from decide_eq_false (by omega)]
  refine sA [] rfl ?_
  refine ev_buildSlice tabOk rfl rfl rfl inf56 rfl rfl rfl (fun _ h => by cases h) rfl (fun b wb hb hB hfb => ?_)
  have hB : R8 wb b [] := hB
  refine ev_buildSlice tabOk rfl rfl rfl inf56 rfl rfl rfl (fun _ h => by cases h) rfl (fun c wc hc hC hfc => ?_)
  have hC : R8 wc c [] := hC
  have hbl := hB.lt
  have hN0 : T8 w wc (.slice (some ⟨b, 0, none⟩) 0 0) (cosF 0 h) (.slice (some ⟨c, 0, none⟩) 0 0) (sinF 0 h) :=
    ⟨(N8.of (xs := []) hB hb hfb (Nat.zero_le _)).fr hfc, N8.of (xs := []) hC (by have := hfb.size; omega) (hfb.tr hfc) (Nat.zero_le _), fun g hg e => by cases hg; cases e; omega⟩
  clear hB hC hfb hfc
  refine sA [] rfl ?_
  refine ev_loop (α := Nat × Value × Value) (fun y => [(0, i64 n), (1, i64 h), (7, y.2.1), (8, y.2.2), (9, i64 y.1)]) (fun y w' => y.1 ≤ n ∧ T8 w w' y.2.1 (cosF y.1 h) y.2.2 (sinF y.1 h)) (fun y => n - y.1) (0, _, _) ⟨rfl, rfl, rfl, rfl, rfl, trivial⟩ ⟨Nat.zero_le _, hN0⟩ ?_
  clear hN0
  rintro ⟨p, v, u⟩ w1 ⟨hp, hN⟩
  simp only at hp hN
  refine sC [] rfl ?_; refine sD [] rfl ?_; refine sD [] rfl ?_; refine sD [] rfl ?_
  refine ev_condD rfl (fun c => ?_) (fun c => ?_)
  · have hp : p < n := by omega
    have hmul : p * h ≤ 512 * 32 := Nat.mul_le_mul (by omega) (by omega)
    have hlc := cosF_len p h
    have hls := sinF_len p h
    refine sA [] rfl ?_
    refine ev_loop (α := Nat × Value × Value) (fun y => [(0, i64 n), (1, i64 h), (7, y.2.1), (8, y.2.2), (9, i64 p), (10, i64 (2 ^ y.1)), (11, i64 y.1)]) (fun y w' => y.1 ≤ h ∧ T8 w w' y.2.1 (cosF p h ++ cosR p y.1) y.2.2 (sinF p h ++ sinR p y.1)) (fun y => h - y.1) (0, v, u) ⟨rfl, rfl, rfl, rfl, rfl, rfl, rfl, trivial⟩ ⟨Nat.zero_le _, by
      have e1 : cosR p 0 = [] := rfl
      have e2 : sinR p 0 = [] := rfl
      simp only [e1, e2, List.append_nil]; exact hN⟩ ?_
    clear hN
    rintro ⟨i, v1, u1⟩ w2 ⟨hi, hN⟩
    simp only at hi hN
    have hlR : (cosR p i).length = i := by simp [cosR]
    have hlS : (sinR p i).length = i := by simp [sinR]
    refine sC [] rfl ?_; refine sD [] rfl ?_; refine sD [] rfl ?_; refine sD [] rfl ?_
    refine ev_condD rfl (fun c2 => ?_) (fun c2 => ?_)
    · have hi : i < h := by omega
      have hab := angQ_bd p i
      have hp2 := pow_bd (s := i) (by omega)
      have hp3 := pow_bd (s := i + 1) (by omega)
      have e3 : (2 : Int) ^ i * 2 = 2 ^ (i + 1) := (Int.pow_succ 2 i).symm
      refine sA [] rfl ?_; refine ev_arith rfl rfl rfl rfl rfl (by simp only [lowK, hiK]; omega) ?_; refine sA [] rfl ?_
      refine ev_quo (a := 64 * (p : Int)) (b := 2 ^ i) rfl rfl rfl rfl (by omega) (by omega) (by simp only [hiK]; omega) ?_
      rw [show 64 * (p : Int) / 2 ^ i = angQ p i from rfl]
      refine sA [] rfl ?_; refine ev_arith rfl rfl rfl rfl rfl (by simp only [lowK, hiK]; omega) ?_
      refine ev_call rfl rfl rfl (refSine (angQ p i + 64) _ (by omega) (by omega)) (fun r w3 hr => ?_)
      obtain ⟨rfl, hf3⟩ := hr
      have hN := hN.fr hf3
      rw [sine_v]
      refine ev_append1 tabOk rfl rfl (fun _ => rfl) rfl rfl inf56 rfl (by omega) (fun _ => rfl) rfl rfl (by simp [Value.cells]) (by simp [flatV, Value.cells, Value.oneCell']) rfl hN.1.1 (by rw [List.length_append]; omega) (fun v4 w4 g ho4 hf4 hn4 => ?_)
      have hN4 := hN.app (zs := [Int8.ofInt (sineQ (angQ p i + 64))]) ho4 hf4 hn4
      rw [List.append_assoc, ← cosR_succ] at hN4
      clear hN
      refine sA [] rfl ?_
      refine ev_call rfl rfl rfl (refSine (angQ p i) _ (by omega) (by omega)) (fun r w5 hr => ?_)
      obtain ⟨rfl, hf5⟩ := hr
      have hN5 := hN4.fr hf5
      clear hN4
      rw [sine_v]
      refine ev_append1 tabOk rfl rfl (fun _ => rfl) rfl rfl inf56 rfl (by omega) (fun _ => rfl) rfl rfl (by simp [Value.cells]) (by simp [flatV, Value.cells, Value.oneCell']) rfl hN5.2.1.1 (by rw [List.length_append]; omega) (fun v6 w6 g6 ho6 hf6 hn6 => ?_)
      have hN6 := (hN5.swap.app (zs := [Int8.ofInt (sineQ (angQ p i))]) ho6 hf6 hn6).swap
      rw [List.append_assoc, ← sinR_succ] at hN6
      refine sA [] rfl ?_; refine ev_arith rfl rfl rfl rfl rfl (by simp only [lowK, hiK]; omega) ?_; refine sA [] rfl ?_; refine ev_arith rfl rfl rfl rfl rfl (by simp only [lowK, hiK]; omega) ?_; refine sA [] rfl ?_
      exact ev_next (i + 1, v4, v6) (by simp only; omega) ⟨hi, hN6⟩ ⟨rfl, rfl, rfl, rfl, rfl, by rw [← e3]; rfl, by rw [show ((i + 1 : Nat) : Int) = (i : Int) + 1 by omega]; rfl, trivial⟩
    · obtain rfl : i = h := by omega
      rw [← cosF_succ, ← sinF_succ] at hN
      refine sA [] rfl ?_; refine ev_arith rfl rfl rfl rfl rfl (by simp only [lowK, hiK]; omega) ?_; refine sA [] rfl ?_
      exact ev_next (p + 1, v1, u1) (by simp only; omega) ⟨hp, hN⟩ ⟨rfl, rfl, rfl, rfl, by rw [show ((p + 1 : Nat) : Int) = (p : Int) + 1 by omega]; rfl, trivial⟩
  · obtain rfl : p = n := by omega
    refine sA [] rfl ?_
    exact ret3 (.inr rfl) rfl rfl rfl rfl ⟨v, u, rfl, hN⟩
end Go.Wk.YtfgllkflnkolhaaDoor
