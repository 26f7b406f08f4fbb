/-
  Chapter 13: how often each token stands in texts; the row of counts; the program's walk.
-/
import Derived.Test.YtjdfdahdobikmaaVoP
set_option linter.unusedVariables false
namespace Go.Wk.Ytjdfdahdobikmaa
open Go Go.Wk Go.Proofs

/-- a row of numbers at the head of a block -/
def Rw (w : World) (g cap : Nat) (r : List Int) : Prop := ∃ cs, Blk w g cs 3 ∧ cs.length = cap ∧ r.length ≤ cap ∧ cs.take r.length = r.map i64
theorem Rw.fr {S : Nat → Prop} {w w' : World} {g cap : Nat} {r : List Int} (h : Rw w g cap r) (hf : Fr S w w') (hn : ¬ S g) : Rw w' g cap r := by
  obtain ⟨cs, hb, h1, h2, h3⟩ := h
  exact ⟨cs, hb.fr hf hn, h1, h2, h3⟩
theorem Rw.fr0 {w w' : World} {g cap : Nat} {r : List Int} (h : Rw w g cap r) (hf : Fr no w w') : Rw w' g cap r := h.fr hf id
theorem Rw.cs {w : World} {g cap : Nat} {r : List Int} (h : Rw w g cap r) : Cs w (some ⟨g, 0, none⟩) (r.map i64) := by
  obtain ⟨cs, hb, h1, h2, h3⟩ := h
  rw [← h3]; exact (Cs.of_blk hb).take _
theorem Rw.lt {w : World} {g cap : Nat} {r : List Int} (h : Rw w g cap r) : g < w.heap.size := by obtain ⟨cs, hb, _⟩ := h; exact hb.lt
theorem Rw.cell {w : World} {g cap : Nat} {r : List Int} (h : Rw w g cap r) {j : Nat} (hj : j < r.length) : w.cell? ⟨g, 0 + (j : Int).toNat * 1, none⟩ = some (i64 (r.getD j 0)) := by
  obtain ⟨g', o', e', hc⟩ := ints_at h.cs hj
  cases e'; exact hc
theorem Rw.put {cs : List Value} {r : List Int} {cap j : Nat} {x : Int} (h1 : cs.length = cap) (h2 : r.length ≤ cap) (h3 : cs.take r.length = r.map i64) (hj : j < r.length) :
    (setV cs j (i64 x)).length = cap ∧ (r.set j x).length ≤ cap ∧ (setV cs j (i64 x)).take (r.set j x).length = (r.set j x).map i64 := by
  rw [setV_eq, List.length_set, List.length_set, List.map_set, List.take_set, h3]
  exact ⟨h1, h2, rfl⟩
theorem Rw.of_oi {w : World} {a : Value} {r : List Int} (h : OI w a r) (h0 : 0 < r.length) : ∃ g cap, a = .slice (some ⟨g, 0, none⟩) r.length cap ∧ Rw w g cap r ∧ cap ≤ 9223372036854775807 := by
  obtain ⟨g, cap, cs, rfl, hG, hcs, hcl, hct, hcm⟩ := OI.two h h0
  exact ⟨g, cap, rfl, ⟨cs, hG, hcs, hcl, hct⟩, by omega⟩
theorem Rw.oi {w : World} {g cap : Nat} {r : List Int} (h : Rw w g cap r) (hc : cap ≤ 9223372036854775807) : OI w (.slice (some ⟨g, 0, none⟩) r.length cap) r := by
  obtain ⟨cs, hb, h1, h2, h3⟩ := h
  exact OI.of hb h1 h2 h3 hc

def bump (r : List Int) (t : Int) : List Int := r.set t.toNat (r.getD t.toNat 0 + 1)
def VV.cnt (v : VV) (ts : List (List UInt8)) : List Int := ts.foldl (fun r s => (v.enc s).1.foldl bump r) (List.replicate v.texts.length 0)
def tot (ts : List (List UInt8)) : Nat := (ts.map List.length).sum
def Lim (r : List Int) (n k : Nat) : Prop := r.length = n ∧ ∀ j, j < n → 0 ≤ r.getD j 0 ∧ r.getD j 0 ≤ k
theorem Lim.bump {r : List Int} {n k : Nat} (h : Lim r n k) (t : Int) : Lim (bump r t) n (k + 1) := by
  refine ⟨by unfold Wk.Ytjdfdahdobikmaa.bump; rw [List.length_set]; exact h.1, fun j hj => ?_⟩
  unfold Wk.Ytjdfdahdobikmaa.bump
  rw [List.getD_eq_getElem?_getD, List.getElem?_set]
  by_cases e : t.toNat = j
  · subst e
    rw [if_pos rfl, if_pos (by rw [h.1]; exact hj)]
    have := h.2 _ hj
    simp only [Option.getD_some]
    omega
  · rw [if_neg e, ← List.getD_eq_getElem?_getD]
    have := h.2 _ hj
    omega
theorem lim0 (n : Nat) : Lim (List.replicate n 0) n 0 := ⟨List.length_replicate, fun j hj => by
  rw [List.getD_eq_getElem?_getD, List.getElem?_replicate, if_pos hj]; simp⟩
theorem Lim.mono {r : List Int} {n k k' : Nat} (h : Lim r n k) (hk : k ≤ k') : Lim r n k' := ⟨h.1, fun j hj => by have := h.2 j hj; omega⟩
theorem tot_take : ∀ (ts : List (List UInt8)) (k : Nat), k < ts.length → tot (ts.take (k + 1)) = tot (ts.take k) + (ts.getD k []).length
  | [], k, h => absurd h (Nat.not_lt_zero k)
  | t :: ts, 0, _ => by simp [tot]
  | t :: ts, k + 1, h => by
    have ih := tot_take ts k (by simpa using h)
    simp only [tot, List.take_succ_cons, List.map_cons, List.sum_cons, List.getD_cons_succ] at ih ⊢
    omega
theorem tot_take_le : ∀ (ts : List (List UInt8)) (k : Nat), tot (ts.take k) ≤ tot ts
  | [], k => by simp
  | t :: ts, 0 => by simp [tot]
  | t :: ts, k + 1 => by
    have ih := tot_take_le ts k
    simp only [tot, List.take_succ_cons, List.map_cons, List.sum_cons] at ih ⊢
    omega
theorem tot_mem {ts : List (List UInt8)} {k : Nat} (h : k < ts.length) : (ts.getD k []).length ≤ tot ts := by
  have h1 := tot_take ts k h
  have h2 := tot_take_le ts (k + 1)
  omega
theorem cnt_take {v : VV} {ts : List (List UInt8)} {k : Nat} (h : k < ts.length) : v.cnt (ts.take (k + 1)) = (v.enc (ts.getD k [])).1.foldl bump (v.cnt (ts.take k)) := by
  unfold VV.cnt
  rw [List.take_add_one, List.getElem?_eq_getElem h, List.getD_eq_getElem?_getD, List.getElem?_eq_getElem h, List.foldl_append]
  rfl
theorem fold_take {l : List Int} {r : List Int} {i : Nat} (h : i < l.length) : (l.take (i + 1)).foldl bump r = bump ((l.take i).foldl bump r) (l.getD i 0) := by
  rw [List.take_add_one, List.getElem?_eq_getElem h, List.getD_eq_getElem?_getD, List.getElem?_eq_getElem h, List.foldl_append]
  rfl
/-- how often each token stands in texts -/
def VV.ubad (v : VV) (ts : List (List UInt8)) : Nat := fstP (fun i => (v.enc (ts.getD i [])).2.2 ≠ 0) 0 ts.length
def VV.uses (v : VV) (ts : List (List UInt8)) : List Int × Nat × Nat := if v.chk.2 ≠ 0 then ([], v.chk.1, v.chk.2) else if v.ubad ts < ts.length then ([], v.ubad ts, (v.enc (ts.getD (v.ubad ts) [])).2.2) else (v.cnt ts, 0, 0)
theorem uses_1 {v : VV} {ts : List (List UInt8)} (h : v.chk.2 ≠ 0) : v.uses ts = ([], v.chk.1, v.chk.2) := by unfold VV.uses; rw [if_pos h]
theorem uses_2 {v : VV} {ts : List (List UInt8)} (h : v.chk.2 = 0) {i : Nat} (hi : i < ts.length) (hall : ∀ j, j < i → (v.enc (ts.getD j [])).2.2 = 0) (hb : (v.enc (ts.getD i [])).2.2 ≠ 0) : v.uses ts = ([], i, (v.enc (ts.getD i [])).2.2) := by
  have : v.ubad ts = i := fstP_at hi (fun j hj => Decidable.not_not.2 (hall j hj)) hb
  unfold VV.uses; rw [if_neg (by omega), this, if_pos hi]
theorem uses_3 {v : VV} {ts : List (List UInt8)} (h : v.chk.2 = 0) (hall : ∀ j, j < ts.length → (v.enc (ts.getD j [])).2.2 = 0) : v.uses ts = (v.cnt ts, 0, 0) := by
  have : v.ubad ts = ts.length := fstP_no (fun j hj => Decidable.not_not.2 (hall j hj))
  unfold VV.uses; rw [if_neg (by omega), this, if_neg (by omega)]

/-- what Uses gives back -/
def UseR (v : VV) (ts : List (List UInt8)) (r : Value) (w : World) : Prop := ∃ A c, r = .tuple #[.slice A (v.uses ts).1.length c, i64 (v.uses ts).2.1, i64 (v.uses ts).2.2] ∧ Cs w A ((v.uses ts).1.map i64)
theorem UseR.none {v : VV} {ts : List (List UInt8)} {w : World} {A : Option Addr} {c a b : Nat} (h : v.uses ts = ([], a, b)) : UseR v ts (.tuple #[.slice A 0 c, i64 a, i64 b]) w :=
  ⟨A, c, by rw [h]; rfl, by rw [h]; exact Cs.nil w A⟩

theorem wUses (A : Option Addr) (c : Nat) (B : Option Addr) (d : Nat) (v : VV) (C : Option Addr) (e : Nat) (ts : List (List UInt8)) (w : World) (hV : Vo w A B v) (hS : VS v) (hC : Cs w C (ts.map sv)) (hl : ts.length ≤ 5000000) (ht : tot ts ≤ 5000000) :
    CallsF Try.prog 23 [vv A c B d v, .slice C ts.length e] w fun r w' => UseR v ts r w' ∧ Fr no w w' := by
  have hn := hS.merges
  have hnt := hS.texts
  refine callsF Try.func23 rfl rfl (by decide) rfl ?_
  refine stepF_ok tabOk [] (m := 3) rfl ?_
  refine ev_box rfl rfl rfl (fun p wb hp hB hfb => ?_)
  have hB : Blk wb p [.slice A v.texts.length c, .slice B v.merges.length d] 25 := hB
  repeat (first
    | refine stepF_ok tabOk [] (m := 400) rfl ?_
    | refine stepF_ok tabOk [] (m := 16) rfl ?_
    | refine stepF_ok tabOk [] (m := 3) rfl ?_
    | refine stepF_ok tabOk [] (m := 0) rfl ?_
    | refine ev_load rfl rfl tabOk rfl rfl (by assumption) ?_
    | refine ev_loadB rfl rfl tabOk rfl rfl (by assumption) (by rfl) ?_
    | refine ev_loadAggB rfl rfl tabOk rfl rfl (by assumption) (by rfl) ?_
    | refine ev_arith rfl rfl rfl rfl rfl (by simp only [lowK, hiK]; omega) ?_
    | refine ev_rem rfl rfl rfl rfl (by omega) (by omega) ?_
    | refine ev_quo rfl rfl rfl rfl (by omega) (by omega) (by simp only [hiK]; omega) ?_
    | refine ev_index rfl rfl tabOk rfl rfl rfl (by omega) (by omega) ?_
    | refine ev_indexA rfl rfl tabOk rfl rfl rfl (by omega) (by omega) rfl ?_
    | refine ev_convB rfl rfl tabOk rfl rfl rfl rfl ?_
    | refine ev_conv rfl rfl tabOk rfl rfl rfl (by simp only [lowK, hiK]; omega) ?_)
  refine ev_call rfl rfl rfl (wCheck A c B d v _ (hV.fr0 hfb) hS) (fun r w1 hr => ?_)
  obtain ⟨rfl, hf1⟩ := hr
  have hB1 := hB.fr0 hf1
  have hf01 := hfb.tr hf1
  clear hB hfb hf1
  repeat (first
    | refine stepF_ok tabOk [] (m := 400) rfl ?_
    | refine stepF_ok tabOk [] (m := 16) rfl ?_
    | refine stepF_ok tabOk [] (m := 3) rfl ?_
    | refine stepF_ok tabOk [] (m := 0) rfl ?_
    | refine ev_load rfl rfl tabOk rfl rfl (by assumption) ?_
    | refine ev_loadB rfl rfl tabOk rfl rfl (by assumption) (by rfl) ?_
    | refine ev_loadAggB rfl rfl tabOk rfl rfl (by assumption) (by rfl) ?_
    | refine ev_arith rfl rfl rfl rfl rfl (by simp only [lowK, hiK]; omega) ?_
    | refine ev_rem rfl rfl rfl rfl (by omega) (by omega) ?_
    | refine ev_quo rfl rfl rfl rfl (by omega) (by omega) (by simp only [hiK]; omega) ?_
    | refine ev_index rfl rfl tabOk rfl rfl rfl (by omega) (by omega) ?_
    | refine ev_indexA rfl rfl tabOk rfl rfl rfl (by omega) (by omega) rfl ?_
    | refine ev_convB rfl rfl tabOk rfl rfl rfl rfl ?_
    | refine ev_conv rfl rfl tabOk rfl rfl rfl (by simp only [lowK, hiK]; omega) ?_)
  refine ev_condD rfl (fun h => ?_) (fun h => ?_)
  · repeat (first
      | refine stepF_ok tabOk [] (m := 400) rfl ?_
      | refine stepF_ok tabOk [] (m := 16) rfl ?_
      | refine stepF_ok tabOk [] (m := 3) rfl ?_
      | refine stepF_ok tabOk [] (m := 0) rfl ?_
      | refine ev_load rfl rfl tabOk rfl rfl (by assumption) ?_
      | refine ev_loadB rfl rfl tabOk rfl rfl (by assumption) (by rfl) ?_
      | refine ev_loadAggB rfl rfl tabOk rfl rfl (by assumption) (by rfl) ?_
      | refine ev_arith rfl rfl rfl rfl rfl (by simp only [lowK, hiK]; omega) ?_
      | refine ev_rem rfl rfl rfl rfl (by omega) (by omega) ?_
      | refine ev_quo rfl rfl rfl rfl (by omega) (by omega) (by simp only [hiK]; omega) ?_
      | refine ev_index rfl rfl tabOk rfl rfl rfl (by omega) (by omega) ?_
      | refine ev_indexA rfl rfl tabOk rfl rfl rfl (by omega) (by omega) rfl ?_
      | refine ev_convB rfl rfl tabOk rfl rfl rfl rfl ?_
      | refine ev_conv rfl rfl tabOk rfl rfl rfl (by simp only [lowK, hiK]; omega) ?_)
    exact ret3 (.inr rfl) rfl rfl rfl rfl ⟨UseR.none (uses_1 (by omega)), hf01⟩
  have h0 : v.chk.2 = 0 := by omega
  repeat (first
    | refine stepF_ok tabOk [] (m := 400) rfl ?_
    | refine stepF_ok tabOk [] (m := 16) rfl ?_
    | refine stepF_ok tabOk [] (m := 3) rfl ?_
    | refine stepF_ok tabOk [] (m := 0) rfl ?_
    | refine ev_load rfl rfl tabOk rfl rfl (by assumption) ?_
    | refine ev_loadB rfl rfl tabOk rfl rfl (by assumption) (by rfl) ?_
    | refine ev_loadAggB rfl rfl tabOk rfl rfl (by assumption) (by rfl) ?_
    | refine ev_arith rfl rfl rfl rfl rfl (by simp only [lowK, hiK]; omega) ?_
    | refine ev_rem rfl rfl rfl rfl (by omega) (by omega) ?_
    | refine ev_quo rfl rfl rfl rfl (by omega) (by omega) (by simp only [hiK]; omega) ?_
    | refine ev_index rfl rfl tabOk rfl rfl rfl (by omega) (by omega) ?_
    | refine ev_indexA rfl rfl tabOk rfl rfl rfl (by omega) (by omega) rfl ?_
    | refine ev_convB rfl rfl tabOk rfl rfl rfl rfl ?_
    | refine ev_conv rfl rfl tabOk rfl rfl rfl (by simp only [lowK, hiK]; omega) ?_)
  refine ev_make tabOk rfl rfl rfl inf3 rfl rfl (by omega) (by omega) (by omega) (fun g w2 hg hG hf2 => ?_)
  have e1 : (madeCells (Value.cells (.int .i64 0)) (((v.texts.length : Int)).toNat * 1)).toList = List.replicate v.texts.length (.int .i64 0) := by
    rw [Int.toNat_natCast, Nat.mul_one]; exact toList_madeCells_one _ _
  rw [e1] at hG
  have hR : Rw w2 g v.texts.length (v.cnt (ts.take 0)) := ⟨_, hG, List.length_replicate, by simp [VV.cnt], by simp [VV.cnt]⟩
  have hB2 := hB1.fr0 hf2
  have hf02 := hf01.tr hf2
  have hgw : w.heap.size ≤ g := by have := hf01.size; omega
  have hpg : p < g := by have := hB1.lt; omega
  have hL : Lim (v.cnt (ts.take 0)) v.texts.length (tot (ts.take 0)) := lim0 _
  clear hG hB1 hf01 hf2
  repeat (first
    | refine stepF_ok tabOk [] (m := 400) rfl ?_
    | refine stepF_ok tabOk [] (m := 16) rfl ?_
    | refine stepF_ok tabOk [] (m := 3) rfl ?_
    | refine stepF_ok tabOk [] (m := 0) rfl ?_
    | refine ev_load rfl rfl tabOk rfl rfl (by assumption) ?_
    | refine ev_loadB rfl rfl tabOk rfl rfl (by assumption) (by rfl) ?_
    | refine ev_loadAggB rfl rfl tabOk rfl rfl (by assumption) (by rfl) ?_
    | refine ev_arith rfl rfl rfl rfl rfl (by simp only [lowK, hiK]; omega) ?_
    | refine ev_rem rfl rfl rfl rfl (by omega) (by omega) ?_
    | refine ev_quo rfl rfl rfl rfl (by omega) (by omega) (by simp only [hiK]; omega) ?_
    | refine ev_index rfl rfl tabOk rfl rfl rfl (by omega) (by omega) ?_
    | refine ev_indexA rfl rfl tabOk rfl rfl rfl (by omega) (by omega) rfl ?_
    | refine ev_convB rfl rfl tabOk rfl rfl rfl rfl ?_
    | refine ev_conv rfl rfl tabOk rfl rfl rfl (by simp only [lowK, hiK]; omega) ?_)
  refine ev_loop (α := Nat) (fun k => [(2, .pointer (some ⟨p, 0, none⟩)), (9, .slice (some ⟨g, 0, none⟩) v.texts.length v.texts.length), (30, .slice C ts.length e), (31, i64 ts.length), (32, i64 k)])
    (fun k w' => k ≤ ts.length ∧ (∀ j, j < k → (v.enc (ts.getD j [])).2.2 = 0) ∧ Rw w' g v.texts.length (v.cnt (ts.take k)) ∧ Lim (v.cnt (ts.take k)) v.texts.length (tot (ts.take k)) ∧ Fr no w w' ∧ Blk w' p [.slice A v.texts.length c, .slice B v.merges.length d] 25) (fun k => ts.length - k) 0 ⟨rfl, rfl, rfl, rfl, rfl, trivial⟩ ⟨Nat.zero_le _, fun j h => by omega, hR, hL, hf02, hB2⟩ ?_
  clear hR hL hf02 hB2 e1 hg
  rintro k w3 ⟨hk, hall, hR, hL, hf, hB⟩
  repeat (first
    | refine stepF_ok tabOk [] (m := 400) rfl ?_
    | refine stepF_ok tabOk [] (m := 16) rfl ?_
    | refine stepF_ok tabOk [] (m := 3) rfl ?_
    | refine stepF_ok tabOk [] (m := 0) rfl ?_
    | refine ev_load rfl rfl tabOk rfl rfl (by assumption) ?_
    | refine ev_loadB rfl rfl tabOk rfl rfl (by assumption) (by rfl) ?_
    | refine ev_loadAggB rfl rfl tabOk rfl rfl (by assumption) (by rfl) ?_
    | refine ev_arith rfl rfl rfl rfl rfl (by simp only [lowK, hiK]; omega) ?_
    | refine ev_rem rfl rfl rfl rfl (by omega) (by omega) ?_
    | refine ev_quo rfl rfl rfl rfl (by omega) (by omega) (by simp only [hiK]; omega) ?_
    | refine ev_index rfl rfl tabOk rfl rfl rfl (by omega) (by omega) ?_
    | refine ev_indexA rfl rfl tabOk rfl rfl rfl (by omega) (by omega) rfl ?_
    | refine ev_convB rfl rfl tabOk rfl rfl rfl rfl ?_
    | refine ev_conv rfl rfl tabOk rfl rfl rfl (by simp only [lowK, hiK]; omega) ?_)
  refine ev_condD rfl (fun hlt => ?_) (fun hlt => ?_)
  · have hk1 : k < ts.length := by omega
    obtain ⟨gc, oc, e1, hcx⟩ := strs_at (hC.fr0 hf) hk1
    subst e1
    have hcx : w3.cell? ⟨gc, oc + (k : Int).toNat * 1, none⟩ = some (sv (ts.getD k [])) := hcx
    have hsl := tot_mem hk1
    have htk := tot_take ts k hk1
    have htl := tot_take_le ts (k + 1)
    have hcn := cnt_take (v := v) hk1
    have hen := enc_len v (ts.getD k [])
    obtain ⟨s, hs⟩ : ∃ s, s = ts.getD k [] := ⟨_, rfl⟩
    rw [← hs] at hcx hsl htk hcn hen
    repeat (first
      | refine stepF_ok tabOk [] (m := 400) rfl ?_
      | refine stepF_ok tabOk [] (m := 16) rfl ?_
      | refine stepF_ok tabOk [] (m := 3) rfl ?_
      | refine stepF_ok tabOk [] (m := 0) rfl ?_
      | refine ev_load rfl rfl tabOk rfl rfl (by assumption) ?_
      | refine ev_loadB rfl rfl tabOk rfl rfl (by assumption) (by rfl) ?_
      | refine ev_loadAggB rfl rfl tabOk rfl rfl (by assumption) (by rfl) ?_
      | refine ev_arith rfl rfl rfl rfl rfl (by simp only [lowK, hiK]; omega) ?_
      | refine ev_rem rfl rfl rfl rfl (by omega) (by omega) ?_
      | refine ev_quo rfl rfl rfl rfl (by omega) (by omega) (by simp only [hiK]; omega) ?_
      | refine ev_index rfl rfl tabOk rfl rfl rfl (by omega) (by omega) ?_
      | refine ev_indexA rfl rfl tabOk rfl rfl rfl (by omega) (by omega) rfl ?_
      | refine ev_convB rfl rfl tabOk rfl rfl rfl rfl ?_
      | refine ev_conv rfl rfl tabOk rfl rfl rfl (by simp only [lowK, hiK]; omega) ?_)
    refine ev_indexAddr (len := ts.length) (i := k) rfl rfl tabOk rfl rfl rfl (by omega) (by omega) ?_
    repeat (first
      | refine stepF_ok tabOk [] (m := 400) rfl ?_
      | refine stepF_ok tabOk [] (m := 16) rfl ?_
      | refine stepF_ok tabOk [] (m := 3) rfl ?_
      | refine stepF_ok tabOk [] (m := 0) rfl ?_
      | refine ev_load rfl rfl tabOk rfl rfl (by assumption) ?_
      | refine ev_loadB rfl rfl tabOk rfl rfl (by assumption) (by rfl) ?_
      | refine ev_loadAggB rfl rfl tabOk rfl rfl (by assumption) (by rfl) ?_
      | refine ev_arith rfl rfl rfl rfl rfl (by simp only [lowK, hiK]; omega) ?_
      | refine ev_rem rfl rfl rfl rfl (by omega) (by omega) ?_
      | refine ev_quo rfl rfl rfl rfl (by omega) (by omega) (by simp only [hiK]; omega) ?_
      | refine ev_index rfl rfl tabOk rfl rfl rfl (by omega) (by omega) ?_
      | refine ev_indexA rfl rfl tabOk rfl rfl rfl (by omega) (by omega) rfl ?_
      | refine ev_convB rfl rfl tabOk rfl rfl rfl rfl ?_
      | refine ev_conv rfl rfl tabOk rfl rfl rfl (by simp only [lowK, hiK]; omega) ?_)
    refine ev_call rfl rfl rfl (wEncode A c B d v s _ (hV.fr0 hf) hS (by omega)) (fun r w4 hr => ?_)
    obtain ⟨⟨a, rfl, hO, hga⟩, hf4⟩ := hr
    have hf04 := hf.tr hf4
    have hB4 := hB.fr0 hf4
    have hR4 := hR.fr0 hf4
    have hgl := hR.lt
    have hg2 : ∀ g', a.ownBlock = some g' → g < g' := fun g' h => by have := hga g' h; omega
    clear hcx hf4 hB hR hga
    obtain ⟨Ae, ae, rfl, hE, hA0⟩ := hO.cs
    have hAe : ∀ x, Ae = some x → g < x.block := fun x h => hg2 _ (by subst h; rfl)
    repeat (first
      | refine stepF_ok tabOk [] (m := 400) rfl ?_
      | refine stepF_ok tabOk [] (m := 16) rfl ?_
      | refine stepF_ok tabOk [] (m := 3) rfl ?_
      | refine stepF_ok tabOk [] (m := 0) rfl ?_
      | refine ev_load rfl rfl tabOk rfl rfl (by assumption) ?_
      | refine ev_loadB rfl rfl tabOk rfl rfl (by assumption) (by rfl) ?_
      | refine ev_loadAggB rfl rfl tabOk rfl rfl (by assumption) (by rfl) ?_
      | refine ev_arith rfl rfl rfl rfl rfl (by simp only [lowK, hiK]; omega) ?_
      | refine ev_rem rfl rfl rfl rfl (by omega) (by omega) ?_
      | refine ev_quo rfl rfl rfl rfl (by omega) (by omega) (by simp only [hiK]; omega) ?_
      | refine ev_index rfl rfl tabOk rfl rfl rfl (by omega) (by omega) ?_
      | refine ev_indexA rfl rfl tabOk rfl rfl rfl (by omega) (by omega) rfl ?_
      | refine ev_convB rfl rfl tabOk rfl rfl rfl rfl ?_
      | refine ev_conv rfl rfl tabOk rfl rfl rfl (by simp only [lowK, hiK]; omega) ?_)
    refine ev_condD rfl (fun he => ?_) (fun he => ?_)
    · have hu := uses_2 h0 hk1 hall (by rw [← hs]; omega)
      rw [← hs] at hu
      repeat (first
        | refine stepF_ok tabOk [] (m := 400) rfl ?_
        | refine stepF_ok tabOk [] (m := 16) rfl ?_
        | refine stepF_ok tabOk [] (m := 3) rfl ?_
        | refine stepF_ok tabOk [] (m := 0) rfl ?_
        | refine ev_load rfl rfl tabOk rfl rfl (by assumption) ?_
        | refine ev_loadB rfl rfl tabOk rfl rfl (by assumption) (by rfl) ?_
        | refine ev_loadAggB rfl rfl tabOk rfl rfl (by assumption) (by rfl) ?_
        | refine ev_arith rfl rfl rfl rfl rfl (by simp only [lowK, hiK]; omega) ?_
        | refine ev_rem rfl rfl rfl rfl (by omega) (by omega) ?_
        | refine ev_quo rfl rfl rfl rfl (by omega) (by omega) (by simp only [hiK]; omega) ?_
        | refine ev_index rfl rfl tabOk rfl rfl rfl (by omega) (by omega) ?_
        | refine ev_indexA rfl rfl tabOk rfl rfl rfl (by omega) (by omega) rfl ?_
        | refine ev_convB rfl rfl tabOk rfl rfl rfl rfl ?_
        | refine ev_conv rfl rfl tabOk rfl rfl rfl (by simp only [lowK, hiK]; omega) ?_)
      exact ret3 (.inr rfl) rfl rfl rfl rfl ⟨UseR.none hu, hf04⟩
    · have he0 : (v.enc s).2.2 = 0 := by omega
      have htok := enc_tok he0
      obtain ⟨l, hl'⟩ : ∃ l, l = (v.enc s).1 := ⟨_, rfl⟩
      rw [← hl'] at htok hcn hen hE
      have hall2 : ∀ j, j < k + 1 → (v.enc (ts.getD j [])).2.2 = 0 := fun j hj => by
        by_cases e : j = k
        · subst e; rw [← hs]; exact he0
        · exact hall j (by omega)
      have hnk : tot (ts.take k) + l.length ≤ tot (ts.take (k + 1)) := by omega
      repeat (first
        | refine stepF_ok tabOk [] (m := 400) rfl ?_
        | refine stepF_ok tabOk [] (m := 16) rfl ?_
        | refine stepF_ok tabOk [] (m := 3) rfl ?_
        | refine stepF_ok tabOk [] (m := 0) rfl ?_
        | refine ev_load rfl rfl tabOk rfl rfl (by assumption) ?_
        | refine ev_loadB rfl rfl tabOk rfl rfl (by assumption) (by rfl) ?_
        | refine ev_loadAggB rfl rfl tabOk rfl rfl (by assumption) (by rfl) ?_
        | refine ev_arith rfl rfl rfl rfl rfl (by simp only [lowK, hiK]; omega) ?_
        | refine ev_rem rfl rfl rfl rfl (by omega) (by omega) ?_
        | refine ev_quo rfl rfl rfl rfl (by omega) (by omega) (by simp only [hiK]; omega) ?_
        | refine ev_index rfl rfl tabOk rfl rfl rfl (by omega) (by omega) ?_
        | refine ev_indexA rfl rfl tabOk rfl rfl rfl (by omega) (by omega) rfl ?_
        | refine ev_convB rfl rfl tabOk rfl rfl rfl rfl ?_
        | refine ev_conv rfl rfl tabOk rfl rfl rfl (by simp only [lowK, hiK]; omega) ?_)
      rw [← hl']
      refine ev_loop (α := Nat) (fun i => [(2, .pointer (some ⟨p, 0, none⟩)), (9, .slice (some ⟨g, 0, none⟩) v.texts.length v.texts.length), (30, .slice (some ⟨gc, oc, none⟩) ts.length e), (31, i64 ts.length), (32, i64 k), (48, .slice Ae l.length ae), (49, i64 l.length), (50, i64 i)])
        (fun i w' => i ≤ l.length ∧ Rw w' g v.texts.length ((l.take i).foldl bump (v.cnt (ts.take k))) ∧ Lim ((l.take i).foldl bump (v.cnt (ts.take k))) v.texts.length (tot (ts.take k) + i) ∧ Fr no w w' ∧ Cs w' Ae (l.map i64) ∧ Blk w' p [.slice A v.texts.length c, .slice B v.merges.length d] 25) (fun i => l.length - i) 0 ⟨rfl, rfl, rfl, rfl, rfl, rfl, rfl, rfl, trivial⟩ ⟨Nat.zero_le _, hR4, hL, hf04, hE, hB4⟩ ?_
      clear hR4 hL hf04 hE hB4 hO hA0
      rintro i w5 ⟨hi, hR, hL, hf, hE, hB⟩
      repeat (first
        | refine stepF_ok tabOk [] (m := 400) rfl ?_
        | refine stepF_ok tabOk [] (m := 16) rfl ?_
        | refine stepF_ok tabOk [] (m := 3) rfl ?_
        | refine stepF_ok tabOk [] (m := 0) rfl ?_
        | refine ev_load rfl rfl tabOk rfl rfl (by assumption) ?_
        | refine ev_loadB rfl rfl tabOk rfl rfl (by assumption) (by rfl) ?_
        | refine ev_loadAggB rfl rfl tabOk rfl rfl (by assumption) (by rfl) ?_
        | refine ev_arith rfl rfl rfl rfl rfl (by simp only [lowK, hiK]; omega) ?_
        | refine ev_rem rfl rfl rfl rfl (by omega) (by omega) ?_
        | refine ev_quo rfl rfl rfl rfl (by omega) (by omega) (by simp only [hiK]; omega) ?_
        | refine ev_index rfl rfl tabOk rfl rfl rfl (by omega) (by omega) ?_
        | refine ev_indexA rfl rfl tabOk rfl rfl rfl (by omega) (by omega) rfl ?_
        | refine ev_convB rfl rfl tabOk rfl rfl rfl rfl ?_
        | refine ev_conv rfl rfl tabOk rfl rfl rfl (by simp only [lowK, hiK]; omega) ?_)
      refine ev_condD rfl (fun hi2 => ?_) (fun hi2 => ?_)
      · have hi1 : i < l.length := by omega
        obtain ⟨ge, oe, e2, hx⟩ := ints_at hE hi1
        subst e2
        have hge : g < ge := hAe _ rfl
        obtain ⟨t, ht'⟩ : ∃ t, t = l.getD i 0 := ⟨_, rfl⟩
        obtain ⟨ht1, ht2⟩ := htok t (by rw [ht', List.getD_eq_getElem?_getD, List.getElem?_eq_getElem hi1]; exact List.getElem_mem hi1)
        have hft := fold_take (r := v.cnt (ts.take k)) hi1
        rw [← ht'] at hx hft
        generalize (l.take i).foldl bump (v.cnt (ts.take k)) = r at *
        have hx : w5.cell? ⟨ge, oe + (i : Int).toNat * 1, none⟩ = some (i64 t) := hx
        have hlim := hL.2 t.toNat (by omega)
        have hxr : w5.cell? ⟨g, 0 + t.toNat * 1, none⟩ = some (i64 (r.getD t.toNat 0)) := hR.cell (j := t.toNat) (by rw [hL.1]; omega)
        have hLb := hL.bump t
        repeat (first
          | refine stepF_ok tabOk [] (m := 400) rfl ?_
          | refine stepF_ok tabOk [] (m := 16) rfl ?_
          | refine stepF_ok tabOk [] (m := 3) rfl ?_
          | refine stepF_ok tabOk [] (m := 0) rfl ?_
          | refine ev_load rfl rfl tabOk rfl rfl (by assumption) ?_
          | refine ev_loadB rfl rfl tabOk rfl rfl (by assumption) (by rfl) ?_
          | refine ev_loadAggB rfl rfl tabOk rfl rfl (by assumption) (by rfl) ?_
          | refine ev_arith rfl rfl rfl rfl rfl (by simp only [lowK, hiK]; omega) ?_
          | refine ev_rem rfl rfl rfl rfl (by omega) (by omega) ?_
          | refine ev_quo rfl rfl rfl rfl (by omega) (by omega) (by simp only [hiK]; omega) ?_
          | refine ev_index rfl rfl tabOk rfl rfl rfl (by omega) (by omega) ?_
          | refine ev_indexA rfl rfl tabOk rfl rfl rfl (by omega) (by omega) rfl ?_
          | refine ev_convB rfl rfl tabOk rfl rfl rfl rfl ?_
          | refine ev_conv rfl rfl tabOk rfl rfl rfl (by simp only [lowK, hiK]; omega) ?_)
        refine ev_indexAddr (len := l.length) (i := i) rfl rfl tabOk rfl rfl rfl (by omega) (by omega) ?_
        repeat (first
          | refine stepF_ok tabOk [] (m := 400) rfl ?_
          | refine stepF_ok tabOk [] (m := 16) rfl ?_
          | refine stepF_ok tabOk [] (m := 3) rfl ?_
          | refine stepF_ok tabOk [] (m := 0) rfl ?_
          | refine ev_load rfl rfl tabOk rfl rfl (by assumption) ?_
          | refine ev_loadB rfl rfl tabOk rfl rfl (by assumption) (by rfl) ?_
          | refine ev_loadAggB rfl rfl tabOk rfl rfl (by assumption) (by rfl) ?_
          | refine ev_arith rfl rfl rfl rfl rfl (by simp only [lowK, hiK]; omega) ?_
          | refine ev_rem rfl rfl rfl rfl (by omega) (by omega) ?_
          | refine ev_quo rfl rfl rfl rfl (by omega) (by omega) (by simp only [hiK]; omega) ?_
          | refine ev_index rfl rfl tabOk rfl rfl rfl (by omega) (by omega) ?_
          | refine ev_indexA rfl rfl tabOk rfl rfl rfl (by omega) (by omega) rfl ?_
          | refine ev_convB rfl rfl tabOk rfl rfl rfl rfl ?_
          | refine ev_conv rfl rfl tabOk rfl rfl rfl (by simp only [lowK, hiK]; omega) ?_)
        refine ev_indexAddr (len := v.texts.length) (i := t) rfl rfl tabOk rfl rfl rfl (by omega) (by omega) ?_
        repeat (first
          | refine stepF_ok tabOk [] (m := 400) rfl ?_
          | refine stepF_ok tabOk [] (m := 16) rfl ?_
          | refine stepF_ok tabOk [] (m := 3) rfl ?_
          | refine stepF_ok tabOk [] (m := 0) rfl ?_
          | refine ev_load rfl rfl tabOk rfl rfl (by assumption) ?_
          | refine ev_loadB rfl rfl tabOk rfl rfl (by assumption) (by rfl) ?_
          | refine ev_loadAggB rfl rfl tabOk rfl rfl (by assumption) (by rfl) ?_
          | refine ev_arith rfl rfl rfl rfl rfl (by simp only [lowK, hiK]; omega) ?_
          | refine ev_rem rfl rfl rfl rfl (by omega) (by omega) ?_
          | refine ev_quo rfl rfl rfl rfl (by omega) (by omega) (by simp only [hiK]; omega) ?_
          | refine ev_index rfl rfl tabOk rfl rfl rfl (by omega) (by omega) ?_
          | refine ev_indexA rfl rfl tabOk rfl rfl rfl (by omega) (by omega) rfl ?_
          | refine ev_convB rfl rfl tabOk rfl rfl rfl rfl ?_
          | refine ev_conv rfl rfl tabOk rfl rfl rfl (by simp only [lowK, hiK]; omega) ?_)
        refine ev_indexAddr (len := v.texts.length) (i := t) rfl rfl tabOk rfl rfl rfl (by omega) (by omega) ?_
        obtain ⟨cs, hb5, h1, h2, h3⟩ := hR
        have hput := Rw.put (j := t.toNat) (x := r.getD t.toNat 0 + 1) h1 h2 h3 (by rw [hL.1]; omega)
        refine ev_store tabOk rfl rfl rfl rfl rfl rfl hb5 (by rw [Nat.blt_eq, h1]; omega) (fun w6 hb6 hf6 => ?_)
        rw [show 0 + t.toNat * 1 = t.toNat by omega] at hb6
        have hR6 : Rw w6 g v.texts.length (bump r t) := ⟨_, hb6, hput⟩
        have hf06 : Fr no w w6 := old hf (by omega) hf6
        have hE6 := hE.fr hf6 (fun a ha h => by cases ha; have : ge = g := h; omega)
        have hB6 := hB.fr hf6 (fun h => by have : p = g := h; omega)
        clear hb5 h1 h2 h3 hput hb6 hf6 hE hB hx hxr hL hf
        repeat (first
          | refine stepF_ok tabOk [] (m := 400) rfl ?_
          | refine stepF_ok tabOk [] (m := 16) rfl ?_
          | refine stepF_ok tabOk [] (m := 3) rfl ?_
          | refine stepF_ok tabOk [] (m := 0) rfl ?_
          | refine ev_load rfl rfl tabOk rfl rfl (by assumption) ?_
          | refine ev_loadB rfl rfl tabOk rfl rfl (by assumption) (by rfl) ?_
          | refine ev_loadAggB rfl rfl tabOk rfl rfl (by assumption) (by rfl) ?_
          | refine ev_arith rfl rfl rfl rfl rfl (by simp only [lowK, hiK]; omega) ?_
          | refine ev_rem rfl rfl rfl rfl (by omega) (by omega) ?_
          | refine ev_quo rfl rfl rfl rfl (by omega) (by omega) (by simp only [hiK]; omega) ?_
          | refine ev_index rfl rfl tabOk rfl rfl rfl (by omega) (by omega) ?_
          | refine ev_indexA rfl rfl tabOk rfl rfl rfl (by omega) (by omega) rfl ?_
          | refine ev_convB rfl rfl tabOk rfl rfl rfl rfl ?_
          | refine ev_conv rfl rfl tabOk rfl rfl rfl (by simp only [lowK, hiK]; omega) ?_)
        exact ev_next (i + 1) (by omega) ⟨by omega, by rw [hft]; exact hR6, by rw [hft]; exact hLb, hf06, hE6, hB6⟩ ⟨rfl, rfl, rfl, rfl, rfl, rfl, rfl, rfl, trivial⟩
      · have hi1 : i = l.length := by omega
        subst hi1
        rw [List.take_length] at hR hL
        rw [← hcn] at hR hL
        repeat (first
          | refine stepF_ok tabOk [] (m := 400) rfl ?_
          | refine stepF_ok tabOk [] (m := 16) rfl ?_
          | refine stepF_ok tabOk [] (m := 3) rfl ?_
          | refine stepF_ok tabOk [] (m := 0) rfl ?_
          | refine ev_load rfl rfl tabOk rfl rfl (by assumption) ?_
          | refine ev_loadB rfl rfl tabOk rfl rfl (by assumption) (by rfl) ?_
          | refine ev_loadAggB rfl rfl tabOk rfl rfl (by assumption) (by rfl) ?_
          | refine ev_arith rfl rfl rfl rfl rfl (by simp only [lowK, hiK]; omega) ?_
          | refine ev_rem rfl rfl rfl rfl (by omega) (by omega) ?_
          | refine ev_quo rfl rfl rfl rfl (by omega) (by omega) (by simp only [hiK]; omega) ?_
          | refine ev_index rfl rfl tabOk rfl rfl rfl (by omega) (by omega) ?_
          | refine ev_indexA rfl rfl tabOk rfl rfl rfl (by omega) (by omega) rfl ?_
          | refine ev_convB rfl rfl tabOk rfl rfl rfl rfl ?_
          | refine ev_conv rfl rfl tabOk rfl rfl rfl (by simp only [lowK, hiK]; omega) ?_)
        exact ev_next (k + 1) (by omega) ⟨by omega, hall2, hR, hL.mono hnk, hf, hB⟩ ⟨rfl, rfl, rfl, rfl, rfl, trivial⟩
  · have hkn : k = ts.length := by omega
    subst hkn
    rw [List.take_length] at hR hL
    have hu := uses_3 h0 hall
    repeat (first
      | refine stepF_ok tabOk [] (m := 400) rfl ?_
      | refine stepF_ok tabOk [] (m := 16) rfl ?_
      | refine stepF_ok tabOk [] (m := 3) rfl ?_
      | refine stepF_ok tabOk [] (m := 0) rfl ?_
      | refine ev_load rfl rfl tabOk rfl rfl (by assumption) ?_
      | refine ev_loadB rfl rfl tabOk rfl rfl (by assumption) (by rfl) ?_
      | refine ev_loadAggB rfl rfl tabOk rfl rfl (by assumption) (by rfl) ?_
      | refine ev_arith rfl rfl rfl rfl rfl (by simp only [lowK, hiK]; omega) ?_
      | refine ev_rem rfl rfl rfl rfl (by omega) (by omega) ?_
      | refine ev_quo rfl rfl rfl rfl (by omega) (by omega) (by simp only [hiK]; omega) ?_
      | refine ev_index rfl rfl tabOk rfl rfl rfl (by omega) (by omega) ?_
      | refine ev_indexA rfl rfl tabOk rfl rfl rfl (by omega) (by omega) rfl ?_
      | refine ev_convB rfl rfl tabOk rfl rfl rfl rfl ?_
      | refine ev_conv rfl rfl tabOk rfl rfl rfl (by simp only [lowK, hiK]; omega) ?_)
    exact ret3 (.inr rfl) rfl rfl rfl rfl ⟨⟨some ⟨g, 0, none⟩, v.texts.length, by rw [hu, hL.1]; rfl, by rw [hu]; exact hR.cs⟩, hf⟩
end Go.Wk.Ytjdfdahdobikmaa
