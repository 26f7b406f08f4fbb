/-
  The walks of chapter 13: the program's Check.
-/
import Derived.Test.YtfgllkflnkolhaaDoorVoB
set_option linter.unusedVariables false
namespace Go.Wk.YtfgllkflnkolhaaDoor
open Go Go.Wk Go.Proofs

abbrev strK (s : List UInt8) : Value := .string (sOf s)
theorem keyS : KeyT Tryd.prog 9 strK := key_str Tryd.underlying9
theorem old {w w1 w2 : World} {b : Nat} (h : Fr no w w1) (hb : w.heap.size ≤ b) (h2 : Fr (fun c => c = b) w1 w2) : Fr no w w2 := h.trans h2 fun c hc e => by have : c = b := e; omega
theorem blk_old {w w' : World} {p b : Nat} {cs : List Value} {t : TypeId} (h : Blk w p cs t) (hf : Fr (fun c => c = b) w w') (hn : p < b) : Blk w' p cs t := h.fr hf (fun e => by have : p = b := e; omega)

set_option maxHeartbeats 2000000 in
theorem wCheck (A : Option Addr) (c : Nat) (B : Option Addr) (d : Nat) (v : VV) (w : World) (hV : Vo w A B v) (hS : VS v) :
    CallsF Tryd.prog 68 [vv A c B d v] w fun r w' => r = chkR v ∧ Fr no w w' := by
  have hn := hS.merges
  have hnt := hS.texts
  refine callsF Tryd.func68 rfl rfl (by decide) rfl ?_
  refine stepF_ok tabOk [] (m := 3) rfl ?_
  refine ev_box rfl rfl rfl (fun p wb hp hB hfb => ?_)
  have hB : Blk wb p [.slice A v.texts.length c, .slice B v.merges.length d] 48 := hB
  have hzb := hfb.size
  refine sA [] rfl ?_; refine ev_loadB rfl rfl tabOk rfl rfl ‹_› (by rfl) ?_; refine sD [] rfl ?_; refine sD [] rfl ?_; refine sD [] rfl ?_
  refine ev_condD rfl (fun h1 => ?_) (fun h1 => ?_)
  · refine sA [] rfl ?_
    exact ret2 (.inr rfl) rfl rfl rfl ⟨by unfold chkR; rw [chk_1 (by omega)]; rfl, hfb⟩
  have h1 : ¬ 512 < v.texts.length := by omega
  refine sA [] rfl ?_
  have hpl := hB.lt
  refine ev_makeMap strK rfl rfl (fun q w1 hq hM1 hf1 => ?_)
  have hB1 := hB.fr0 hf1
  have hf01 := hfb.tr hf1
  have hqw : w.heap.size ≤ q := by omega
  have hpq : p < q := by omega
  clear hB hf1 hfb
  refine sA [] rfl ?_; refine ev_loadB rfl rfl tabOk rfl rfl ‹_› (by rfl) ?_; refine sA [] rfl ?_
  refine ev_loop (α := Nat) (fun k => [(1, .pointer (some ⟨p, 0, none⟩)), (2, i64 0), (3, i64 0), (4, .map (some q)), (21, .slice A v.texts.length c), (22, i64 v.texts.length), (23, i64 k)])
    (fun k w' => k ≤ v.texts.length ∧ (∀ j, j < k → v.okT j) ∧ Fr no w w' ∧ Blk w' p [.slice A v.texts.length c, .slice B v.merges.length d] 48 ∧ Mp strK w' q (mapN v.t (fun i => i64 i) k)) (fun k => v.texts.length - k) 0 ⟨rfl, rfl, rfl, rfl, rfl, rfl, rfl, trivial⟩ ⟨Nat.zero_le _, fun j h => by omega, hf01, hB1, hM1⟩ ?_
  clear hB1 hf01 hM1
  rintro k w2 ⟨hk, hall, hf, hB, hM⟩
  have hA := (hV.fr0 hf).1
  refine sC [] rfl ?_; refine sD [] rfl ?_
  refine ev_condD rfl (fun hlt => ?_) (fun hlt => ?_)
  · have hk1 : k < v.texts.length := by omega
    obtain ⟨g, o, e1, hcx⟩ := strs_at hA hk1
    subst e1
    have hcx : w2.cell? ⟨g, o + (k : Int).toNat * 1, none⟩ = some (sv (v.t k)) := hcx
    have hkl := hS.len k
    refine sA [] rfl ?_
    refine ev_indexAddr (len := v.texts.length) (i := k) rfl rfl tabOk rfl rfl rfl (by omega) (by omega) ?_
    refine ev_load rfl rfl tabOk rfl rfl ‹_› ?_; refine sA [] rfl ?_
    refine ev_lookup (κ := strK) (q := v.t k) tabOk rfl rfl rfl hM rfl rfl keyS inf3 (fun u hu => ?_) (fun hu => ?_)
    · obtain ⟨i, hi, he, rfl⟩ := mapN_some hu
      refine sA [] rfl ?_
      exact ret2 (.inr rfl) rfl rfl rfl ⟨by unfold chkR; rw [chk_2 h1 hk1 hall (fun h => h.1 i hi he)]; rfl, hf⟩
    · have hno := mapN_none.1 hu
      have e0 : decide ((k : Int) = 0) = decide (k = 0) := decide_eq_decide.2 ⟨fun h => by omega, fun h => by omega⟩
      refine sC [] rfl ?_; refine sC [] rfl ?_; refine sC [] rfl ?_; refine sD [] rfl ?_; refine sD [] rfl ?_
      rw [e0]
      by_cases h2 : (v.t k = [] ↔ k = 0)
      · rw [show decide (v.t k = []) = decide (k = 0) from decide_eq_decide.2 h2]
        generalize decide (k = 0) = a
        cases a
        all_goals
          repeat (first | refine sA [] rfl ?_ | refine sB [] rfl ?_ | refine sC [] rfl ?_ | refine sD [] rfl ?_ | refine ev_load rfl rfl tabOk rfl rfl ‹_› ?_ | refine ev_loadB rfl rfl tabOk rfl rfl ‹_› (by rfl) ?_ | refine ev_loadAggB rfl rfl tabOk rfl rfl ‹_› (by rfl) ?_ | refine ev_arith rfl rfl rfl rfl rfl (by simp only [lowK, hiK]; omega) ?_ | refine ev_rem rfl rfl rfl rfl (by omega) (by omega) ?_ | refine ev_quo rfl rfl rfl rfl (by omega) (by omega) (by simp only [hiK]; omega) ?_ | refine ev_index rfl rfl tabOk rfl rfl rfl (by omega) (by omega) ?_ | refine ev_indexA rfl rfl tabOk rfl rfl rfl (by omega) (by omega) rfl ?_ | refine ev_convB rfl rfl tabOk rfl rfl rfl rfl ?_ | refine ev_conv rfl rfl tabOk rfl rfl rfl (by simp only [lowK, hiK]; omega) ?_)
          refine ev_condD rfl (fun h3 => ?_) (fun h3 => ?_)
          · repeat (first | refine sA [] rfl ?_ | refine sB [] rfl ?_ | refine sC [] rfl ?_ | refine sD [] rfl ?_ | refine ev_load rfl rfl tabOk rfl rfl ‹_› ?_ | refine ev_loadB rfl rfl tabOk rfl rfl ‹_› (by rfl) ?_ | refine ev_loadAggB rfl rfl tabOk rfl rfl ‹_› (by rfl) ?_ | refine ev_arith rfl rfl rfl rfl rfl (by simp only [lowK, hiK]; omega) ?_ | refine ev_rem rfl rfl rfl rfl (by omega) (by omega) ?_ | refine ev_quo rfl rfl rfl rfl (by omega) (by omega) (by simp only [hiK]; omega) ?_ | refine ev_index rfl rfl tabOk rfl rfl rfl (by omega) (by omega) ?_ | refine ev_indexA rfl rfl tabOk rfl rfl rfl (by omega) (by omega) rfl ?_ | refine ev_convB rfl rfl tabOk rfl rfl rfl rfl ?_ | refine ev_conv rfl rfl tabOk rfl rfl rfl (by simp only [lowK, hiK]; omega) ?_)
            exact ret2 (.inr rfl) rfl rfl rfl ⟨by unfold chkR; rw [chk_2 h1 hk1 hall (fun h => by have := h.2.2; omega)]; rfl, hf⟩
          · repeat (first | refine sA [] rfl ?_ | refine sB [] rfl ?_ | refine sC [] rfl ?_ | refine sD [] rfl ?_ | refine ev_load rfl rfl tabOk rfl rfl ‹_› ?_ | refine ev_loadB rfl rfl tabOk rfl rfl ‹_› (by rfl) ?_ | refine ev_loadAggB rfl rfl tabOk rfl rfl ‹_› (by rfl) ?_ | refine ev_arith rfl rfl rfl rfl rfl (by simp only [lowK, hiK]; omega) ?_ | refine ev_rem rfl rfl rfl rfl (by omega) (by omega) ?_ | refine ev_quo rfl rfl rfl rfl (by omega) (by omega) (by simp only [hiK]; omega) ?_ | refine ev_index rfl rfl tabOk rfl rfl rfl (by omega) (by omega) ?_ | refine ev_indexA rfl rfl tabOk rfl rfl rfl (by omega) (by omega) rfl ?_ | refine ev_convB rfl rfl tabOk rfl rfl rfl rfl ?_ | refine ev_conv rfl rfl tabOk rfl rfl rfl (by simp only [lowK, hiK]; omega) ?_)
            refine ev_mapPut (κ := strK) (q := v.t k) (v := i64 k) tabOk rfl rfl hM rfl rfl rfl keyS hu (fun w3 hM3 hf3 => ?_)
            rw [← mapN_succ v.t (fun i => i64 i) k] at hM3
            repeat (first | refine sA [] rfl ?_ | refine sB [] rfl ?_ | refine sC [] rfl ?_ | refine sD [] rfl ?_ | refine ev_load rfl rfl tabOk rfl rfl ‹_› ?_ | refine ev_loadB rfl rfl tabOk rfl rfl ‹_› (by rfl) ?_ | refine ev_loadAggB rfl rfl tabOk rfl rfl ‹_› (by rfl) ?_ | refine ev_arith rfl rfl rfl rfl rfl (by simp only [lowK, hiK]; omega) ?_ | refine ev_rem rfl rfl rfl rfl (by omega) (by omega) ?_ | refine ev_quo rfl rfl rfl rfl (by omega) (by omega) (by simp only [hiK]; omega) ?_ | refine ev_index rfl rfl tabOk rfl rfl rfl (by omega) (by omega) ?_ | refine ev_indexA rfl rfl tabOk rfl rfl rfl (by omega) (by omega) rfl ?_ | refine ev_convB rfl rfl tabOk rfl rfl rfl rfl ?_ | refine ev_conv rfl rfl tabOk rfl rfl rfl (by simp only [lowK, hiK]; omega) ?_)
            refine ev_next (k + 1) (by omega) ⟨by omega, fun i hi => ?_, old hf hqw hf3, blk_old hB hf3 hpq, hM3⟩ ⟨rfl, rfl, rfl, rfl, rfl, rfl, rfl, trivial⟩
            by_cases e : i = k
            · subst e; exact ⟨hno, h2, by omega⟩
            · exact hall i (by omega)
      · have hne : decide (v.t k = []) = !decide (k = 0) := by
          by_cases a : v.t k = []
          · have b : ¬ k = 0 := fun b => h2 ⟨fun _ => b, fun _ => a⟩
            rw [decide_eq_true a, decide_eq_false b]; rfl
          · have b : k = 0 := Decidable.byContradiction fun b => h2 ⟨fun e => absurd e a, fun e => absurd e b⟩
            rw [decide_eq_false a, decide_eq_true b]; rfl
        rw [hne]
        generalize decide (k = 0) = a
        cases a
        all_goals
          repeat (first | refine sA [] rfl ?_ | refine sB [] rfl ?_ | refine sC [] rfl ?_ | refine sD [] rfl ?_ | refine ev_load rfl rfl tabOk rfl rfl ‹_› ?_ | refine ev_loadB rfl rfl tabOk rfl rfl ‹_› (by rfl) ?_ | refine ev_loadAggB rfl rfl tabOk rfl rfl ‹_› (by rfl) ?_ | refine ev_arith rfl rfl rfl rfl rfl (by simp only [lowK, hiK]; omega) ?_ | refine ev_rem rfl rfl rfl rfl (by omega) (by omega) ?_ | refine ev_quo rfl rfl rfl rfl (by omega) (by omega) (by simp only [hiK]; omega) ?_ | refine ev_index rfl rfl tabOk rfl rfl rfl (by omega) (by omega) ?_ | refine ev_indexA rfl rfl tabOk rfl rfl rfl (by omega) (by omega) rfl ?_ | refine ev_convB rfl rfl tabOk rfl rfl rfl rfl ?_ | refine ev_conv rfl rfl tabOk rfl rfl rfl (by simp only [lowK, hiK]; omega) ?_)
          exact ret2 (.inr rfl) rfl rfl rfl ⟨by unfold chkR; rw [chk_2 h1 hk1 hall (fun h => h2 h.2.1)]; rfl, hf⟩
  · have hkn : k = v.texts.length := by omega
    subst hkn
    clear hM
    refine sA [] rfl ?_; refine ev_loadB rfl rfl tabOk rfl rfl ‹_› (by rfl) ?_; refine sC [] rfl ?_
    refine ev_condD rfl (fun h2 => ?_) (fun h2 => ?_)
    · refine sA [] rfl ?_; refine ev_loadB rfl rfl tabOk rfl rfl ‹_› (by rfl) ?_; refine sA [] rfl ?_
      exact ret2 (.inr rfl) rfl rfl rfl ⟨by unfold chkR; rw [chk_3 h1 hall (by omega)]; rfl, hf⟩
    have h2 : ¬ v.texts.length < 2 := by omega
    refine sA [] rfl ?_; refine ev_loadB rfl rfl tabOk rfl rfl ‹_› (by rfl) ?_; refine sC [] rfl ?_
    refine ev_condD rfl (fun h3 => ?_) (fun h3 => ?_)
    · refine sA [] rfl ?_
      exact ret2 (.inr rfl) rfl rfl rfl ⟨by unfold chkR; rw [chk_4 h1 hall h2 (by omega)]; rfl, hf⟩
    have h3 : ¬ 1024 < v.merges.length := by omega
    have hz2 := hf.size
    refine sA [] rfl ?_
    refine ev_makeMap pairV rfl rfl (fun r w3 hr hM3 hf3 => ?_)
    have hB3 := hB.fr0 hf3
    have hf03 := hf.tr hf3
    have hrw : w.heap.size ≤ r := by omega
    have hpr : p < r := by have := hB.lt; omega
    clear hB hf3 hf
    refine sA [] rfl ?_; refine ev_loadB rfl rfl tabOk rfl rfl ‹_› (by rfl) ?_; refine sA [] rfl ?_
    refine ev_loop (α := Nat) (fun k => [(1, .pointer (some ⟨p, 0, none⟩)), (2, i64 0), (3, i64 0), (9, .map (some r)), (67, .slice B v.merges.length d), (68, i64 v.merges.length), (69, i64 k)])
      (fun k w' => k ≤ v.merges.length ∧ (∀ j, j < k → v.okM j) ∧ Fr no w w' ∧ Blk w' p [.slice A v.texts.length c, .slice B v.merges.length d] 48 ∧ Mp pairV w' r (mapN (fun i => ((v.m i).1, (v.m i).2.1)) (fun i => i64 i) k)) (fun k => v.merges.length - k) 0 ⟨rfl, rfl, rfl, rfl, rfl, rfl, rfl, trivial⟩ ⟨Nat.zero_le _, fun j h => by omega, hf03, hB3, hM3⟩ ?_
    clear hB3 hf03 hM3
    rintro k w4 ⟨hk, hallM, hf, hB, hM⟩
    refine sC [] rfl ?_; refine sD [] rfl ?_
    refine ev_condD rfl (fun hlt => ?_) (fun hlt => ?_)
    · have hk1 : k < v.merges.length := by omega
      obtain ⟨g, o, e1, hcx⟩ := mrgs_at (hV.fr0 hf).2 hk1
      subst e1
      have hcx : Cs w4 (some ⟨g, o + (k : Int).toNat * 3, none⟩) (mrg1 (v.m k)) := hcx
      refine sA [] rfl ?_
      refine ev_indexAddr (len := v.merges.length) (i := k) rfl rfl tabOk rfl rfl rfl (by omega) (by omega) ?_
      refine ev_loadAgg rfl rfl tabOk rfl rfl rfl hcx ?_
      refine ev_alloc rfl rfl inf114 (fun s w5 hs hQ hf5 => ?_)
      refine sA [] rfl ?_
      refine ev_storeAgg tabOk rfl rfl rfl rfl rfl rfl hQ rfl (fun w6 hQ6 hf6 => ?_)
      have hQ6 : Blk w6 s [i64 (v.m k).1, i64 (v.m k).2.1, i64 (v.m k).2.2] 114 := hQ6
      have hf46 : Fr no w4 w6 := old hf5 (by omega) hf6
      have hB6 := hB.fr0 hf46
      have hM6 := hM.fr0 hf46
      clear hQ hf5 hf6 hcx
      refine sA [] rfl ?_; refine ev_loadB rfl rfl tabOk rfl rfl ‹_› (by rfl) ?_; refine sA [] rfl ?_; refine ev_loadB rfl rfl tabOk rfl rfl ‹_› (by rfl) ?_
      refine ev_build rfl rfl (v := pairV ((v.m k).1, (v.m k).2.1)) rfl (fun w => by kernel_rfl) ?_
      refine ev_alloc rfl rfl inf161 (fun s2 w7 hs2 hQ7 hf7 => ?_)
      refine ev_storeAgg tabOk rfl rfl rfl rfl rfl rfl hQ7 rfl (fun w8 hQ8 hf8 => ?_)
      have hQ8 : Blk w8 s2 [i64 (v.m k).1, i64 (v.m k).2.1] 161 := hQ8
      have hf68 : Fr no w6 w8 := old hf7 (by omega) hf8
      have hQ86 := hQ6.fr0 hf68
      have hf48 := hf46.tr hf68
      have hB8 := hB6.fr0 hf68
      have hM8 := hM6.fr0 hf68
      have hf08 := hf.tr hf48
      have hV8 := hV.fr0 hf08
      have hps2 : s2 > r := by have := hM6.lt; omega
      have hsr : r < s := by have := hM.lt; omega
      clear hQ7 hf7 hf8 hQ6 hB6 hM6 hf46 hf68
      refine sA [] rfl ?_; refine ev_loadAggB rfl rfl tabOk rfl rfl ‹_› (by rfl) ?_
      refine ev_lookup (κ := pairV) (q := ((v.m k).1, (v.m k).2.1)) tabOk rfl rfl rfl hM8 rfl rfl key_pair inf3 (fun u hu => ?_) (fun hu => ?_)
      · obtain ⟨i, hi, he, rfl⟩ := mapN_some hu
        have hbad : ¬ v.okM k := fun h => h.2.2.2.2 i hi he
        refine sA [] rfl ?_
        refine ev_draw mixed (by kernel_rfl) ?_
        refine qA rfl ?_
        refine q_end fun w9 hf9 => ?_
        refine sA [] rfl ?_
        exact ret2 (.inr rfl) rfl rfl rfl ⟨by unfold chkR; rw [chk_5 h1 hall h2 h3 hk1 hallM hbad]; rfl, hf08.tr hf9⟩
      · have hno := mapN_none.1 hu
        obtain ⟨m1, hm1⟩ : ∃ x, x = (v.m k).1 := ⟨_, rfl⟩
        obtain ⟨m2, hm2⟩ : ∃ x, x = (v.m k).2.1 := ⟨_, rfl⟩
        obtain ⟨m3, hm3⟩ : ∃ x, x = (v.m k).2.2 := ⟨_, rfl⟩
        have hokM : v.okM k ↔ v.tok m1 ∧ v.tok m2 ∧ v.tok m3 ∧ v.t m3.toNat = v.t m1.toNat ++ v.t m2.toNat ∧ ∀ i, i < k → ((v.m i).1, (v.m i).2.1) ≠ (m1, m2) := by rw [hm1, hm2, hm3]; exact Iff.rfl
        have hbad : ∀ {w' : World}, ¬ v.okM k → Fr no w w' → (Value.tuple #[i64 k, i64 131] = chkR v ∧ Fr no w w') := fun h hf => ⟨by unfold chkR; rw [chk_5 h1 hall h2 h3 hk1 hallM h]; rfl, hf⟩
        rw [← hm1, ← hm2, ← hm3] at hQ86
        rw [← hm1, ← hm2] at hQ8 hu hno
        have hms := mapN_succ (fun i => ((v.m i).1, (v.m i).2.1)) (fun i => i64 i) k
        simp only [← hm1, ← hm2] at hms
        have tk : ∀ (i : Int) w', Fr no w8 w' → CallsF Tryd.prog 88 [vv A c (some ⟨g, o, none⟩) d v, i64 i] w' fun u w'' => u = .bool (decide (v.tok i)) ∧ Fr no w8 w'' := fun i w' hw' => (says A c _ d v i w').mono fun u w'' z => ⟨z.1, hw'.tr z.2⟩
        refine sA [] rfl ?_
        by_cases t1 : v.tok m1
        · have t1' := decide_eq_true t1
          by_cases t2 : v.tok m2
          · have t2' := decide_eq_true t2
            by_cases t3 : v.tok m3
            · have t3' := decide_eq_true t3
              obtain ⟨k1, hk1'⟩ : ∃ k : Nat, m1 = k := ⟨m1.toNat, by have := t1.1; omega⟩
              obtain ⟨k2, hk2'⟩ : ∃ k : Nat, m2 = k := ⟨m2.toNat, by have := t2.1; omega⟩
              obtain ⟨k3, hk3'⟩ : ∃ k : Nat, m3 = k := ⟨m3.toNat, by have := t3.1; omega⟩
              have b1 := t1.2; have b2 := t2.2; have b3 := t3.2
              have c1 := t1.1; have c2 := t2.1; have c3 := t3.1
              have hA2 := hV8.1
              obtain ⟨ga, oa, ea, ca1⟩ := strs_at hA2 (j := k1) (by omega)
              subst ea
              have ca1 : w8.cell? ⟨ga, oa + m1.toNat * 1, none⟩ = some (sv (v.t m1.toNat)) := by rw [hk1']; exact ca1
              have ca2 : w8.cell? ⟨ga, oa + m2.toNat * 1, none⟩ = some (sv (v.t m2.toNat)) := by
                obtain ⟨g', o', e', hc'⟩ := strs_at hA2 (j := k2) (by omega)
                cases e'; rw [hk2']; exact hc'
              have ca3 : w8.cell? ⟨ga, oa + m3.toNat * 1, none⟩ = some (sv (v.t m3.toNat)) := by
                obtain ⟨g', o', e', hc'⟩ := strs_at hA2 (j := k3) (by omega)
                cases e'; rw [hk3']; exact hc'
              have l1 := hS.len m1.toNat
              have l2 := hS.len m2.toNat
              refine ev_draw mixed (by kernel_rfl) ?_
              refine qA rfl ?_; refine q_loadAggB rfl rfl tabOk rfl rfl ‹_› (by rfl) ?_; refine qA rfl ?_; refine q_loadB rfl rfl tabOk rfl rfl ‹_› (by rfl) ?_
              refine q_call rfl rfl rfl (tk m1) ?_
              rw [t1']
              refine qA rfl ?_; refine q_loadAggB rfl rfl tabOk rfl rfl ‹_› (by rfl) ?_; refine qA rfl ?_; refine q_loadB rfl rfl tabOk rfl rfl ‹_› (by rfl) ?_
              refine q_call rfl rfl rfl (tk m2) ?_
              rw [t2']
              refine qA rfl ?_; refine q_loadAggB rfl rfl tabOk rfl rfl ‹_› (by rfl) ?_; refine qA rfl ?_; refine q_loadB rfl rfl tabOk rfl rfl ‹_› (by rfl) ?_
              refine q_call rfl rfl rfl (tk m3) ?_
              rw [t3']
              refine qA rfl ?_; refine q_loadB rfl rfl tabOk rfl rfl ‹_› (by rfl) ?_; refine qA rfl ?_; refine q_loadB rfl rfl tabOk rfl rfl ‹_› (by rfl) ?_
              refine q_indexAddr (len := v.texts.length) (i := m3) rfl rfl tabOk rfl rfl rfl (by omega) (by omega) ?_
              refine q_load rfl rfl tabOk rfl rfl (fun _ hf => cell_fr (by assumption) hf id) ?_; refine qA rfl ?_; refine q_loadB rfl rfl tabOk rfl rfl ‹_› (by rfl) ?_; refine qA rfl ?_; refine q_loadB rfl rfl tabOk rfl rfl ‹_› (by rfl) ?_
              refine q_indexAddr (len := v.texts.length) (i := m1) rfl rfl tabOk rfl rfl rfl (by omega) (by omega) ?_
              refine q_load rfl rfl tabOk rfl rfl (fun _ hf => cell_fr (by assumption) hf id) ?_; refine qA rfl ?_; refine q_loadB rfl rfl tabOk rfl rfl ‹_› (by rfl) ?_; refine qA rfl ?_; refine q_loadB rfl rfl tabOk rfl rfl ‹_› (by rfl) ?_
              refine q_indexAddr (len := v.texts.length) (i := m2) rfl rfl tabOk rfl rfl rfl (by omega) (by omega) ?_
              refine q_load rfl rfl tabOk rfl rfl (fun _ hf => cell_fr (by assumption) hf id) ?_
              refine q_concat rfl rfl rfl rfl (by omega) ?_
              refine qA rfl ?_
              refine q_end fun w9 hf9 => ?_
              have hf09 := hf08.tr hf9
              have hB9 := hB8.fr0 hf9
              have hM9 := hM8.fr0 hf9
              have hQ9 := hQ8.fr0 hf9
              clear hB8 hM8 hQ86 hQ8 hV8 ca1 ca2 ca3 hA2
              refine ev_condD rfl (fun h4 => ?_) (fun h4 => ?_)
              · refine sA [] rfl ?_
                exact ret2 (.inr rfl) rfl rfl rfl (hbad (fun h => h4 (hokM.1 h).2.2.2.1) hf09)
              · have h4 := Decidable.not_not.1 h4
                refine sA [] rfl ?_; refine ev_loadAggB rfl rfl tabOk rfl rfl ‹_› (by rfl) ?_; refine sA [] rfl ?_
                refine ev_mapPut (κ := pairV) (q := (m1, m2)) (v := i64 k) tabOk rfl rfl hM9 rfl rfl rfl key_pair hu (fun w10 hM10 hf10 => ?_)
                rw [← hms] at hM10
                refine sA [] rfl ?_; refine ev_arith rfl rfl rfl rfl rfl (by simp only [lowK, hiK]; omega) ?_; refine sA [] rfl ?_
                refine ev_next (k + 1) (by omega) ⟨by omega, fun i hi => ?_, old hf09 hrw hf10, blk_old hB9 hf10 hpr, hM10⟩ ⟨rfl, rfl, rfl, rfl, rfl, rfl, rfl, trivial⟩
                by_cases e : i = k
                · subst e; exact hokM.2 ⟨t1, t2, t3, h4, hno⟩
                · exact hallM i (by omega)
            · have t3' := decide_eq_false t3
              refine ev_draw mixed (by kernel_rfl) ?_
              refine qA rfl ?_; refine q_loadAggB rfl rfl tabOk rfl rfl ‹_› (by rfl) ?_; refine qA rfl ?_; refine q_loadB rfl rfl tabOk rfl rfl ‹_› (by rfl) ?_
              refine q_call rfl rfl rfl (tk m1) ?_
              rw [t1']
              refine qA rfl ?_; refine q_loadAggB rfl rfl tabOk rfl rfl ‹_› (by rfl) ?_; refine qA rfl ?_; refine q_loadB rfl rfl tabOk rfl rfl ‹_› (by rfl) ?_
              refine q_call rfl rfl rfl (tk m2) ?_
              rw [t2']
              refine qA rfl ?_; refine q_loadAggB rfl rfl tabOk rfl rfl ‹_› (by rfl) ?_; refine qA rfl ?_; refine q_loadB rfl rfl tabOk rfl rfl ‹_› (by rfl) ?_
              refine q_call rfl rfl rfl (tk m3) ?_
              rw [t3']
              refine qA rfl ?_
              refine q_end fun w9 hf9 => ?_
              refine sA [] rfl ?_
              exact ret2 (.inr rfl) rfl rfl rfl (hbad (fun h => t3 (hokM.1 h).2.2.1) (hf08.tr hf9))
          · have t2' := decide_eq_false t2
            refine ev_draw mixed (by kernel_rfl) ?_
            refine qA rfl ?_; refine q_loadAggB rfl rfl tabOk rfl rfl ‹_› (by rfl) ?_; refine qA rfl ?_; refine q_loadB rfl rfl tabOk rfl rfl ‹_› (by rfl) ?_
            refine q_call rfl rfl rfl (tk m1) ?_
            rw [t1']
            refine qA rfl ?_; refine q_loadAggB rfl rfl tabOk rfl rfl ‹_› (by rfl) ?_; refine qA rfl ?_; refine q_loadB rfl rfl tabOk rfl rfl ‹_› (by rfl) ?_
            refine q_call rfl rfl rfl (tk m2) ?_
            rw [t2']
            refine qA rfl ?_
            refine q_end fun w9 hf9 => ?_
            refine sA [] rfl ?_
            exact ret2 (.inr rfl) rfl rfl rfl (hbad (fun h => t2 (hokM.1 h).2.1) (hf08.tr hf9))
        · have t1' := decide_eq_false t1
          refine ev_draw mixed (by kernel_rfl) ?_
          refine qA rfl ?_; refine q_loadAggB rfl rfl tabOk rfl rfl ‹_› (by rfl) ?_; refine qA rfl ?_; refine q_loadB rfl rfl tabOk rfl rfl ‹_› (by rfl) ?_
          refine q_call rfl rfl rfl (tk m1) ?_
          rw [t1']
          refine qA rfl ?_
          refine q_end fun w9 hf9 => ?_
          refine sA [] rfl ?_
          exact ret2 (.inr rfl) rfl rfl rfl (hbad (fun h => t1 (hokM.1 h).1) (hf08.tr hf9))
    · have hkn : k = v.merges.length := by omega
      subst hkn
      refine sA [] rfl ?_
      exact ret2 (.inr rfl) rfl rfl rfl ⟨by unfold chkR; rw [chk_6 h1 hall h2 h3 hallM]; rfl, hf⟩
end Go.Wk.YtfgllkflnkolhaaDoor
