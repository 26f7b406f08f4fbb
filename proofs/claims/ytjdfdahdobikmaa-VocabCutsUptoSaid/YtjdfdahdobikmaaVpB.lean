/-
  The walks of chapter 13: a text by the fewest tokens; the program.
-/
import Derived.Test.YtjdfdahdobikmaaVpA
set_option linter.unusedVariables false
namespace Go.Wk.Ytjdfdahdobikmaa
open Go Go.Wk Go.Proofs

/-- the table of the program: right from place q on -/
def Tq (v : VV) (s : List UInt8) (q : Nat) (r : List Int) : Prop := r.length = s.length + 1 ∧ ∀ j, q ≤ j → j ≤ s.length → r.getD j 0 = v.fp s j
/-- and at place q the first tokens are looked at -/
def Tk (v : VV) (s : List UInt8) (q k : Nat) (r : List Int) : Prop := Tq v s (q + 1) r ∧ r.getD q 0 = v.mins s (v.fp s) q k
theorem Tk.start {v : VV} {s : List UInt8} {q : Nat} {r : List Int} (h : Tq v s (q + 1) r) (hq : q < s.length) : Tk v s q 0 (r.set q ((s.length : Int) + 1)) := by
  refine ⟨⟨by rw [List.length_set]; exact h.1, fun j h1 h2 => ?_⟩, ?_⟩
  · rw [getD_set (by rw [h.1]; omega), if_neg (by omega)]; exact h.2 j h1 h2
  · rw [getD_set (by rw [h.1]; omega), if_pos rfl]; rfl
theorem Tk.no {v : VV} {s : List UInt8} {q k : Nat} {r : List Int} (h : Tk v s q k r) (hs : ¬ v.sd s q k) : Tk v s q (k + 1) r := ⟨h.1, by
  have e : v.mins s (v.fp s) q (k + 1) = v.mins s (v.fp s) q k := if_neg hs
  rw [e]; exact h.2⟩
theorem Tk.yes {v : VV} {s : List UInt8} {q k : Nat} {r : List Int} (h : Tk v s q k r) (hs : v.sd s q k) (hq : q < s.length) (h0 : 0 < (v.t k).length) : Tk v s q (k + 1) (r.set q (if r.getD (q + (v.t k).length) 0 + 1 < r.getD q 0 then r.getD (q + (v.t k).length) 0 + 1 else r.getD q 0)) := by
  have hle := sd_le hs (by omega)
  have h1 := h.1.2 (q + (v.t k).length) (by omega) hle
  have h2 := h.2
  refine ⟨⟨by rw [List.length_set]; exact h.1.1, fun j g1 g2 => ?_⟩, ?_⟩
  · rw [getD_set (by rw [h.1.1]; omega), if_neg (by omega)]; exact h.1.2 j g1 g2
  · rw [getD_set (by rw [h.1.1]; omega), if_pos rfl, h1, h2]
    have e : v.mins s (v.fp s) q (k + 1) = min (v.mins s (v.fp s) q k) (v.fp s (q + (v.t k).length) + 1) := if_pos hs
    rw [e]
    split <;> omega
theorem Tk.done {v : VV} {s : List UInt8} (hok : v.ok) {q : Nat} {r : List Int} (h : Tk v s q v.texts.length r) (hq : q < s.length) : Tq v s q r :=
  ⟨h.1.1, fun j h1 h2 => by
    by_cases e : j = q
    · subst e; rw [h.2, fp_eq hok hq]
    · exact h.1.2 j (by omega) h2⟩

/-- what Fewest gives back -/
def FewR (v : VV) (s : List UInt8) (r : Value) (w : World) : Prop := ∃ a x, r = .tuple #[a, i64 (x : List Int × Nat × Nat).2.1, i64 x.2.2] ∧ OI w a x.1 ∧ v.FW s x

set_option maxHeartbeats 2000000 in
theorem wFewest (A : Option Addr) (c : Nat) (B : Option Addr) (d : Nat) (v : VV) (s : List UInt8) (w : World) (hV : Vo w A B v) (hS : VS v) (hc : v.texts.length ≤ c) (hc2 : c ≤ 9223372036854775807) (hs : s.length ≤ 5000000) :
    CallsF Try.prog 27 [vv A c B d v, sv s] w fun r w' => FewR v s r w' ∧ Fr no w w' := by
  have hn := hS.merges
  have hnt := hS.texts
  refine callsF Try.func27 rfl rfl (by decide) rfl ?_
  refine stepF_ok tabOk [] (m := 3) rfl ?_
  refine ev_box rfl rfl rfl (fun p wb hp hB hfb => ?_)
  have hB : Blk wb p [.slice A v.texts.length c, .slice B v.merges.length d] 25 := hB
  repeat (first
    | refine stepF_ok tabOk [] (m := 400) rfl ?_
    | refine stepF_ok tabOk [] (m := 16) rfl ?_
    | refine stepF_ok tabOk [] (m := 3) rfl ?_
    | refine stepF_ok tabOk [] (m := 0) rfl ?_
    | refine ev_load rfl rfl tabOk rfl rfl (by assumption) ?_
    | refine ev_loadB rfl rfl tabOk rfl rfl (by assumption) (by rfl) ?_
    | refine ev_loadAggB rfl rfl tabOk rfl rfl (by assumption) (by rfl) ?_
    | refine ev_arith rfl rfl rfl rfl rfl (by simp only [lowK, hiK]; omega) ?_
    | refine ev_rem rfl rfl rfl rfl (by omega) (by omega) ?_
    | refine ev_quo rfl rfl rfl rfl (by omega) (by omega) (by simp only [hiK]; omega) ?_
    | refine ev_index rfl rfl tabOk rfl rfl rfl (by omega) (by omega) ?_
    | refine ev_indexA rfl rfl tabOk rfl rfl rfl (by omega) (by omega) rfl ?_
    | refine ev_convB rfl rfl tabOk rfl rfl rfl rfl ?_
    | refine ev_conv rfl rfl tabOk rfl rfl rfl (by simp only [lowK, hiK]; omega) ?_)
  refine ev_call rfl rfl rfl (wCheck A c B d v _ (hV.fr0 hfb) hS) (fun r w1 hr => ?_)
  obtain ⟨rfl, hf1⟩ := hr
  have hB1 := hB.fr0 hf1
  have hf01 := hfb.tr hf1
  clear hB hfb hf1
  repeat (first
    | refine stepF_ok tabOk [] (m := 400) rfl ?_
    | refine stepF_ok tabOk [] (m := 16) rfl ?_
    | refine stepF_ok tabOk [] (m := 3) rfl ?_
    | refine stepF_ok tabOk [] (m := 0) rfl ?_
    | refine ev_load rfl rfl tabOk rfl rfl (by assumption) ?_
    | refine ev_loadB rfl rfl tabOk rfl rfl (by assumption) (by rfl) ?_
    | refine ev_loadAggB rfl rfl tabOk rfl rfl (by assumption) (by rfl) ?_
    | refine ev_arith rfl rfl rfl rfl rfl (by simp only [lowK, hiK]; omega) ?_
    | refine ev_rem rfl rfl rfl rfl (by omega) (by omega) ?_
    | refine ev_quo rfl rfl rfl rfl (by omega) (by omega) (by simp only [hiK]; omega) ?_
    | refine ev_index rfl rfl tabOk rfl rfl rfl (by omega) (by omega) ?_
    | refine ev_indexA rfl rfl tabOk rfl rfl rfl (by omega) (by omega) rfl ?_
    | refine ev_convB rfl rfl tabOk rfl rfl rfl rfl ?_
    | refine ev_conv rfl rfl tabOk rfl rfl rfl (by simp only [lowK, hiK]; omega) ?_)
  refine ev_condD rfl (fun h => ?_) (fun h => ?_)
  · repeat (first
      | refine stepF_ok tabOk [] (m := 400) rfl ?_
      | refine stepF_ok tabOk [] (m := 16) rfl ?_
      | refine stepF_ok tabOk [] (m := 3) rfl ?_
      | refine stepF_ok tabOk [] (m := 0) rfl ?_
      | refine ev_load rfl rfl tabOk rfl rfl (by assumption) ?_
      | refine ev_loadB rfl rfl tabOk rfl rfl (by assumption) (by rfl) ?_
      | refine ev_loadAggB rfl rfl tabOk rfl rfl (by assumption) (by rfl) ?_
      | refine ev_arith rfl rfl rfl rfl rfl (by simp only [lowK, hiK]; omega) ?_
      | refine ev_rem rfl rfl rfl rfl (by omega) (by omega) ?_
      | refine ev_quo rfl rfl rfl rfl (by omega) (by omega) (by simp only [hiK]; omega) ?_
      | refine ev_index rfl rfl tabOk rfl rfl rfl (by omega) (by omega) ?_
      | refine ev_indexA rfl rfl tabOk rfl rfl rfl (by omega) (by omega) rfl ?_
      | refine ev_convB rfl rfl tabOk rfl rfl rfl rfl ?_
      | refine ev_conv rfl rfl tabOk rfl rfl rfl (by simp only [lowK, hiK]; omega) ?_)
    exact ret3 (.inr rfl) rfl rfl rfl rfl ⟨⟨.slice none 0 0, ([], v.chk.1, v.chk.2), rfl, OI.nil _, fun _ => rfl, fun h0 => absurd h0 (by omega), fun h0 => absurd h0 (by omega)⟩, hf01⟩
  have h0 : v.chk.2 = 0 := by omega
  have hok := chk_ok h0
  have htwo := hok.two
  have hwp : w.heap.size ≤ p := hp
  repeat (first
    | refine stepF_ok tabOk [] (m := 400) rfl ?_
    | refine stepF_ok tabOk [] (m := 16) rfl ?_
    | refine stepF_ok tabOk [] (m := 3) rfl ?_
    | refine stepF_ok tabOk [] (m := 0) rfl ?_
    | refine ev_load rfl rfl tabOk rfl rfl (by assumption) ?_
    | refine ev_loadB rfl rfl tabOk rfl rfl (by assumption) (by rfl) ?_
    | refine ev_loadAggB rfl rfl tabOk rfl rfl (by assumption) (by rfl) ?_
    | refine ev_arith rfl rfl rfl rfl rfl (by simp only [lowK, hiK]; omega) ?_
    | refine ev_rem rfl rfl rfl rfl (by omega) (by omega) ?_
    | refine ev_quo rfl rfl rfl rfl (by omega) (by omega) (by simp only [hiK]; omega) ?_
    | refine ev_index rfl rfl tabOk rfl rfl rfl (by omega) (by omega) ?_
    | refine ev_indexA rfl rfl tabOk rfl rfl rfl (by omega) (by omega) rfl ?_
    | refine ev_convB rfl rfl tabOk rfl rfl rfl rfl ?_
    | refine ev_conv rfl rfl tabOk rfl rfl rfl (by simp only [lowK, hiK]; omega) ?_)
  refine ev_make tabOk rfl rfl rfl inf3 rfl rfl (by omega) (by omega) (by omega) (fun g w2 hg hG hf2 => ?_)
  have e0 : ((s.length : Int) + 1).toNat = s.length + 1 := by omega
  have e1 : (madeCells (Value.cells (.int .i64 0)) (((s.length : Int) + 1).toNat * 1)).toList = List.replicate (s.length + 1) (.int .i64 0) := by
    rw [e0, Nat.mul_one]; exact toList_madeCells_one _ _
  rw [e1] at hG
  rw [e0]
  have hT : ∃ r, Rw w2 g (s.length + 1) r ∧ Tq v s s.length r := by
    refine ⟨List.replicate (s.length + 1) 0, ⟨_, hG, List.length_replicate, by simp, by simp⟩, by simp, fun j h1 h2 => ?_⟩
    rw [fp_end (by omega), List.getD_eq_getElem?_getD, List.getElem?_replicate, if_pos (by omega)]; rfl
  have hB2 := hB1.fr0 hf2
  have hf02 := hf01.tr hf2
  have hgw : w.heap.size ≤ g := by have := hf01.size; omega
  have hpg : p < g := by have := hB1.lt; omega
  clear hB1 hf01 hf2 hg hG
  repeat (first
    | refine stepF_ok tabOk [] (m := 400) rfl ?_
    | refine stepF_ok tabOk [] (m := 16) rfl ?_
    | refine stepF_ok tabOk [] (m := 3) rfl ?_
    | refine stepF_ok tabOk [] (m := 0) rfl ?_
    | refine ev_load rfl rfl tabOk rfl rfl (by assumption) ?_
    | refine ev_loadB rfl rfl tabOk rfl rfl (by assumption) (by rfl) ?_
    | refine ev_loadAggB rfl rfl tabOk rfl rfl (by assumption) (by rfl) ?_
    | refine ev_arith rfl rfl rfl rfl rfl (by simp only [lowK, hiK]; omega) ?_
    | refine ev_rem rfl rfl rfl rfl (by omega) (by omega) ?_
    | refine ev_quo rfl rfl rfl rfl (by omega) (by omega) (by simp only [hiK]; omega) ?_
    | refine ev_index rfl rfl tabOk rfl rfl rfl (by omega) (by omega) ?_
    | refine ev_indexA rfl rfl tabOk rfl rfl rfl (by omega) (by omega) rfl ?_
    | refine ev_convB rfl rfl tabOk rfl rfl rfl rfl ?_
    | refine ev_conv rfl rfl tabOk rfl rfl rfl (by simp only [lowK, hiK]; omega) ?_)
  refine ev_loop (α := Nat) (fun q => [(1, sv s), (2, .pointer (some ⟨p, 0, none⟩)), (9, .int .i64 ((s.length : Int) + 1)), (10, .slice (some ⟨g, 0, none⟩) (s.length + 1) (s.length + 1)), (11, .int .i64 ((q : Int) - 1))])
    (fun q w' => q ≤ s.length ∧ (∃ r, Rw w' g (s.length + 1) r ∧ Tq v s q r) ∧ Fr no w w' ∧ Blk w' p [.slice A v.texts.length c, .slice B v.merges.length d] 25) (fun q => q) s.length ⟨rfl, rfl, rfl, rfl, rfl, trivial⟩ ⟨Nat.le_refl _, hT, hf02, hB2⟩ ?_
  clear hT hf02 hB2
  rintro q w3 ⟨hq, ⟨r, hR, hT⟩, hf, hB⟩
  repeat (first
    | refine stepF_ok tabOk [] (m := 400) rfl ?_
    | refine stepF_ok tabOk [] (m := 16) rfl ?_
    | refine stepF_ok tabOk [] (m := 3) rfl ?_
    | refine stepF_ok tabOk [] (m := 0) rfl ?_
    | refine ev_load rfl rfl tabOk rfl rfl (by assumption) ?_
    | refine ev_loadB rfl rfl tabOk rfl rfl (by assumption) (by rfl) ?_
    | refine ev_loadAggB rfl rfl tabOk rfl rfl (by assumption) (by rfl) ?_
    | refine ev_arith rfl rfl rfl rfl rfl (by simp only [lowK, hiK]; omega) ?_
    | refine ev_rem rfl rfl rfl rfl (by omega) (by omega) ?_
    | refine ev_quo rfl rfl rfl rfl (by omega) (by omega) (by simp only [hiK]; omega) ?_
    | refine ev_index rfl rfl tabOk rfl rfl rfl (by omega) (by omega) ?_
    | refine ev_indexA rfl rfl tabOk rfl rfl rfl (by omega) (by omega) rfl ?_
    | refine ev_convB rfl rfl tabOk rfl rfl rfl rfl ?_
    | refine ev_conv rfl rfl tabOk rfl rfl rfl (by simp only [lowK, hiK]; omega) ?_)
  refine ev_condD rfl (fun hlt => ?_) (fun hlt => ?_)
  · obtain ⟨x, rfl⟩ : ∃ x, q = x + 1 := ⟨q - 1, by omega⟩
    have hxs : x < s.length := by omega
    obtain ⟨cs, hb3, h1, h2, h3⟩ := hR
    have hput := Rw.put (j := x) (x := (s.length : Int) + 1) h1 h2 h3 (by rw [hT.1]; omega)
    rw [show (((x + 1 : Nat) : Int) - 1) = (x : Int) by omega]
    repeat (first
      | refine stepF_ok tabOk [] (m := 400) rfl ?_
      | refine stepF_ok tabOk [] (m := 16) rfl ?_
      | refine stepF_ok tabOk [] (m := 3) rfl ?_
      | refine stepF_ok tabOk [] (m := 0) rfl ?_
      | refine ev_load rfl rfl tabOk rfl rfl (by assumption) ?_
      | refine ev_loadB rfl rfl tabOk rfl rfl (by assumption) (by rfl) ?_
      | refine ev_loadAggB rfl rfl tabOk rfl rfl (by assumption) (by rfl) ?_
      | refine ev_arith rfl rfl rfl rfl rfl (by simp only [lowK, hiK]; omega) ?_
      | refine ev_rem rfl rfl rfl rfl (by omega) (by omega) ?_
      | refine ev_quo rfl rfl rfl rfl (by omega) (by omega) (by simp only [hiK]; omega) ?_
      | refine ev_index rfl rfl tabOk rfl rfl rfl (by omega) (by omega) ?_
      | refine ev_indexA rfl rfl tabOk rfl rfl rfl (by omega) (by omega) rfl ?_
      | refine ev_convB rfl rfl tabOk rfl rfl rfl rfl ?_
      | refine ev_conv rfl rfl tabOk rfl rfl rfl (by simp only [lowK, hiK]; omega) ?_)
    refine ev_indexAddr (len := s.length + 1) (i := (x : Int)) rfl rfl tabOk rfl rfl rfl (by omega) (by omega) ?_
    rw [show 0 + (x : Int).toNat * 1 = x by omega]
    refine ev_store tabOk rfl rfl rfl rfl rfl rfl hb3 (by rw [Nat.blt_eq, h1]; omega) (fun w4 hb4 hf4 => ?_)
    have hR4 : Rw w4 g (s.length + 1) _ := ⟨_, hb4, hput⟩
    have hf04 : Fr no w w4 := old hf (by omega) hf4
    have hB4 := hB.fr hf4 (fun e => by have : p = g := e; omega)
    have hT4 := (Tk.start hT hxs).no (fun h => absurd h.1 (Nat.lt_irrefl 0))
    clear hb3 h1 h2 h3 hput hb4 hf4 hB hf hT
    obtain ⟨ga, oa, e2, _⟩ := strs_at (hV.fr0 hf04).1 (j := 0) (by omega)
    subst e2
    repeat (first
      | refine stepF_ok tabOk [] (m := 400) rfl ?_
      | refine stepF_ok tabOk [] (m := 16) rfl ?_
      | refine stepF_ok tabOk [] (m := 3) rfl ?_
      | refine stepF_ok tabOk [] (m := 0) rfl ?_
      | refine ev_load rfl rfl tabOk rfl rfl (by assumption) ?_
      | refine ev_loadB rfl rfl tabOk rfl rfl (by assumption) (by rfl) ?_
      | refine ev_loadAggB rfl rfl tabOk rfl rfl (by assumption) (by rfl) ?_
      | refine ev_arith rfl rfl rfl rfl rfl (by simp only [lowK, hiK]; omega) ?_
      | refine ev_rem rfl rfl rfl rfl (by omega) (by omega) ?_
      | refine ev_quo rfl rfl rfl rfl (by omega) (by omega) (by simp only [hiK]; omega) ?_
      | refine ev_index rfl rfl tabOk rfl rfl rfl (by omega) (by omega) ?_
      | refine ev_indexA rfl rfl tabOk rfl rfl rfl (by omega) (by omega) rfl ?_
      | refine ev_convB rfl rfl tabOk rfl rfl rfl rfl ?_
      | refine ev_conv rfl rfl tabOk rfl rfl rfl (by simp only [lowK, hiK]; omega) ?_)
    refine ev_slice (A := some ⟨ga, oa, none⟩) (len := v.texts.length) (cap := c) (i := 1) (j := v.texts.length) rfl rfl tabOk rfl rfl rfl rfl (by omega) (by omega) (by omega) ?_
    rw [show (1 : Int).toNat = 1 from rfl, cutO (show 1 < c by omega), Int.toNat_natCast]
    have e3 : ((v.texts.length - 1 : Nat) : Int) = (v.texts.length : Int) - 1 := by omega
    repeat (first
      | refine stepF_ok tabOk [] (m := 400) rfl ?_
      | refine stepF_ok tabOk [] (m := 16) rfl ?_
      | refine stepF_ok tabOk [] (m := 3) rfl ?_
      | refine stepF_ok tabOk [] (m := 0) rfl ?_
      | refine ev_load rfl rfl tabOk rfl rfl (by assumption) ?_
      | refine ev_loadB rfl rfl tabOk rfl rfl (by assumption) (by rfl) ?_
      | refine ev_loadAggB rfl rfl tabOk rfl rfl (by assumption) (by rfl) ?_
      | refine ev_arith rfl rfl rfl rfl rfl (by simp only [lowK, hiK]; omega) ?_
      | refine ev_rem rfl rfl rfl rfl (by omega) (by omega) ?_
      | refine ev_quo rfl rfl rfl rfl (by omega) (by omega) (by simp only [hiK]; omega) ?_
      | refine ev_index rfl rfl tabOk rfl rfl rfl (by omega) (by omega) ?_
      | refine ev_indexA rfl rfl tabOk rfl rfl rfl (by omega) (by omega) rfl ?_
      | refine ev_convB rfl rfl tabOk rfl rfl rfl rfl ?_
      | refine ev_conv rfl rfl tabOk rfl rfl rfl (by simp only [lowK, hiK]; omega) ?_)
    refine ev_loop (α := Nat) (fun k => [(1, sv s), (2, .pointer (some ⟨p, 0, none⟩)), (9, .int .i64 ((s.length : Int) + 1)), (10, .slice (some ⟨g, 0, none⟩) (s.length + 1) (s.length + 1)), (11, i64 x), (47, .slice (some ⟨ga, oa + 1, none⟩) (v.texts.length - 1) (c - 1)), (48, i64 (v.texts.length - 1 : Nat)), (49, i64 k)])
      (fun k w' => k + 1 ≤ v.texts.length ∧ (∃ r, Rw w' g (s.length + 1) r ∧ Tk v s x (k + 1) r) ∧ Fr no w w' ∧ Blk w' p [.slice (some ⟨ga, oa, none⟩) v.texts.length c, .slice B v.merges.length d] 25) (fun k => v.texts.length - k) 0 ⟨rfl, rfl, rfl, rfl, rfl, rfl, rfl, rfl, trivial⟩ ⟨by omega, ⟨_, hR4, hT4⟩, hf04, hB4⟩ ?_
    clear hR4 hT4 hf04 hB4
    rintro k w5 ⟨hk, ⟨r, hR, hT⟩, hf, hB⟩
    repeat (first
      | refine stepF_ok tabOk [] (m := 400) rfl ?_
      | refine stepF_ok tabOk [] (m := 16) rfl ?_
      | refine stepF_ok tabOk [] (m := 3) rfl ?_
      | refine stepF_ok tabOk [] (m := 0) rfl ?_
      | refine ev_load rfl rfl tabOk rfl rfl (by assumption) ?_
      | refine ev_loadB rfl rfl tabOk rfl rfl (by assumption) (by rfl) ?_
      | refine ev_loadAggB rfl rfl tabOk rfl rfl (by assumption) (by rfl) ?_
      | refine ev_arith rfl rfl rfl rfl rfl (by simp only [lowK, hiK]; omega) ?_
      | refine ev_rem rfl rfl rfl rfl (by omega) (by omega) ?_
      | refine ev_quo rfl rfl rfl rfl (by omega) (by omega) (by simp only [hiK]; omega) ?_
      | refine ev_index rfl rfl tabOk rfl rfl rfl (by omega) (by omega) ?_
      | refine ev_indexA rfl rfl tabOk rfl rfl rfl (by omega) (by omega) rfl ?_
      | refine ev_convB rfl rfl tabOk rfl rfl rfl rfl ?_
      | refine ev_conv rfl rfl tabOk rfl rfl rfl (by simp only [lowK, hiK]; omega) ?_)
    refine ev_condD rfl (fun hk2 => ?_) (fun hk2 => ?_)
    · have hk1 : k + 1 < v.texts.length := by omega
      have hy : w5.cell? ⟨ga, oa + 1 + (k : Int).toNat * 1, none⟩ = some (sv (v.t (k + 1))) := by
        obtain ⟨g', o', e', hc⟩ := strs_at (hV.fr0 hf).1 hk1
        cases e'
        rw [show oa + 1 + (k : Int).toNat * 1 = oa + ((k + 1 : Nat) : Int).toNat * 1 by omega]; exact hc
      have hle1 := hS.len (k + 1)
      repeat (first
        | refine stepF_ok tabOk [] (m := 400) rfl ?_
        | refine stepF_ok tabOk [] (m := 16) rfl ?_
        | refine stepF_ok tabOk [] (m := 3) rfl ?_
        | refine stepF_ok tabOk [] (m := 0) rfl ?_
        | refine ev_load rfl rfl tabOk rfl rfl (by assumption) ?_
        | refine ev_loadB rfl rfl tabOk rfl rfl (by assumption) (by rfl) ?_
        | refine ev_loadAggB rfl rfl tabOk rfl rfl (by assumption) (by rfl) ?_
        | refine ev_arith rfl rfl rfl rfl rfl (by simp only [lowK, hiK]; omega) ?_
        | refine ev_rem rfl rfl rfl rfl (by omega) (by omega) ?_
        | refine ev_quo rfl rfl rfl rfl (by omega) (by omega) (by simp only [hiK]; omega) ?_
        | refine ev_index rfl rfl tabOk rfl rfl rfl (by omega) (by omega) ?_
        | refine ev_indexA rfl rfl tabOk rfl rfl rfl (by omega) (by omega) rfl ?_
        | refine ev_convB rfl rfl tabOk rfl rfl rfl rfl ?_
        | refine ev_conv rfl rfl tabOk rfl rfl rfl (by simp only [lowK, hiK]; omega) ?_)
      refine ev_indexAddr (len := v.texts.length - 1) (i := k) rfl rfl tabOk rfl rfl rfl (by omega) (by omega) ?_
      repeat (first
        | refine stepF_ok tabOk [] (m := 400) rfl ?_
        | refine stepF_ok tabOk [] (m := 16) rfl ?_
        | refine stepF_ok tabOk [] (m := 3) rfl ?_
        | refine stepF_ok tabOk [] (m := 0) rfl ?_
        | refine ev_load rfl rfl tabOk rfl rfl (by assumption) ?_
        | refine ev_loadB rfl rfl tabOk rfl rfl (by assumption) (by rfl) ?_
        | refine ev_loadAggB rfl rfl tabOk rfl rfl (by assumption) (by rfl) ?_
        | refine ev_arith rfl rfl rfl rfl rfl (by simp only [lowK, hiK]; omega) ?_
        | refine ev_rem rfl rfl rfl rfl (by omega) (by omega) ?_
        | refine ev_quo rfl rfl rfl rfl (by omega) (by omega) (by simp only [hiK]; omega) ?_
        | refine ev_index rfl rfl tabOk rfl rfl rfl (by omega) (by omega) ?_
        | refine ev_indexA rfl rfl tabOk rfl rfl rfl (by omega) (by omega) rfl ?_
        | refine ev_convB rfl rfl tabOk rfl rfl rfl rfl ?_
        | refine ev_conv rfl rfl tabOk rfl rfl rfl (by simp only [lowK, hiK]; omega) ?_)
      refine ev_sliceStr (s := s) (i := x) (j := s.length) rfl rfl tabOk rfl rfl rfl rfl (by omega) (by omega) (by omega) ?_
      rw [drop_all]
      repeat (first
        | refine stepF_ok tabOk [] (m := 400) rfl ?_
        | refine stepF_ok tabOk [] (m := 16) rfl ?_
        | refine stepF_ok tabOk [] (m := 3) rfl ?_
        | refine stepF_ok tabOk [] (m := 0) rfl ?_
        | refine ev_load rfl rfl tabOk rfl rfl (by assumption) ?_
        | refine ev_loadB rfl rfl tabOk rfl rfl (by assumption) (by rfl) ?_
        | refine ev_loadAggB rfl rfl tabOk rfl rfl (by assumption) (by rfl) ?_
        | refine ev_arith rfl rfl rfl rfl rfl (by simp only [lowK, hiK]; omega) ?_
        | refine ev_rem rfl rfl rfl rfl (by omega) (by omega) ?_
        | refine ev_quo rfl rfl rfl rfl (by omega) (by omega) (by simp only [hiK]; omega) ?_
        | refine ev_index rfl rfl tabOk rfl rfl rfl (by omega) (by omega) ?_
        | refine ev_indexA rfl rfl tabOk rfl rfl rfl (by omega) (by omega) rfl ?_
        | refine ev_convB rfl rfl tabOk rfl rfl rfl rfl ?_
        | refine ev_conv rfl rfl tabOk rfl rfl rfl (by simp only [lowK, hiK]; omega) ?_)
      refine ev_call rfl rfl rfl (wPre (s.drop x) (v.t (k + 1)) _ (by rw [List.length_drop]; omega) hle1) (fun u w6 hu => ?_)
      obtain ⟨rfl, rfl⟩ := hu
      repeat (first
        | refine stepF_ok tabOk [] (m := 400) rfl ?_
        | refine stepF_ok tabOk [] (m := 16) rfl ?_
        | refine stepF_ok tabOk [] (m := 3) rfl ?_
        | refine stepF_ok tabOk [] (m := 0) rfl ?_
        | refine ev_load rfl rfl tabOk rfl rfl (by assumption) ?_
        | refine ev_loadB rfl rfl tabOk rfl rfl (by assumption) (by rfl) ?_
        | refine ev_loadAggB rfl rfl tabOk rfl rfl (by assumption) (by rfl) ?_
        | refine ev_arith rfl rfl rfl rfl rfl (by simp only [lowK, hiK]; omega) ?_
        | refine ev_rem rfl rfl rfl rfl (by omega) (by omega) ?_
        | refine ev_quo rfl rfl rfl rfl (by omega) (by omega) (by simp only [hiK]; omega) ?_
        | refine ev_index rfl rfl tabOk rfl rfl rfl (by omega) (by omega) ?_
        | refine ev_indexA rfl rfl tabOk rfl rfl rfl (by omega) (by omega) rfl ?_
        | refine ev_convB rfl rfl tabOk rfl rfl rfl rfl ?_
        | refine ev_conv rfl rfl tabOk rfl rfl rfl (by simp only [lowK, hiK]; omega) ?_)
      refine ev_condD rfl (fun h2 => ?_) (fun h2 => ?_)
      · have hsd : v.sd s x (k + 1) := ⟨by omega, h2⟩
        have hle := sd_le hsd (by omega)
        have hpos := t_pos hok hsd.1 hk1
        have hT2 := hT.yes hsd hxs hpos
        have hf1 := hT.1.2 (x + (v.t (k + 1)).length) (by omega) hle
        have hfm := fp_most v s (x + (v.t (k + 1)).length)
        have hg1 := hT.2
        have hgm := mins_le (v := v) (s := s) (f := v.fp s) (p := x) (k + 1)
        have hrl := hT.1.1
        repeat (first
          | refine stepF_ok tabOk [] (m := 400) rfl ?_
          | refine stepF_ok tabOk [] (m := 16) rfl ?_
          | refine stepF_ok tabOk [] (m := 3) rfl ?_
          | refine stepF_ok tabOk [] (m := 0) rfl ?_
          | refine ev_load rfl rfl tabOk rfl rfl (by assumption) ?_
          | refine ev_loadB rfl rfl tabOk rfl rfl (by assumption) (by rfl) ?_
          | refine ev_loadAggB rfl rfl tabOk rfl rfl (by assumption) (by rfl) ?_
          | refine ev_arith rfl rfl rfl rfl rfl (by simp only [lowK, hiK]; omega) ?_
          | refine ev_rem rfl rfl rfl rfl (by omega) (by omega) ?_
          | refine ev_quo rfl rfl rfl rfl (by omega) (by omega) (by simp only [hiK]; omega) ?_
          | refine ev_index rfl rfl tabOk rfl rfl rfl (by omega) (by omega) ?_
          | refine ev_indexA rfl rfl tabOk rfl rfl rfl (by omega) (by omega) rfl ?_
          | refine ev_convB rfl rfl tabOk rfl rfl rfl rfl ?_
          | refine ev_conv rfl rfl tabOk rfl rfl rfl (by simp only [lowK, hiK]; omega) ?_)
        refine mix_in mixed (fun w7 hf7 => ?_)
        have hR7 := hR.fr0 hf7
        have c1 : w7.cell? ⟨g, 0 + (x : Int).toNat * 1, none⟩ = some (i64 (r.getD x 0)) := by
          exact hR7.cell (by omega)
        have c2 : w7.cell? ⟨g, 0 + ((x : Int) + (v.t (k + 1)).length).toNat * 1, none⟩ = some (i64 (r.getD (x + (v.t (k + 1)).length) 0)) := by
          rw [show (x : Int) + (v.t (k + 1)).length = ((x + (v.t (k + 1)).length : Nat) : Int) by omega]; exact hR7.cell (by omega)
        refine mix_run 400 tabOk rfl (by kernel_rfl) (by kernel_rfl) ?_
        refine m_indexAddr (len := s.length + 1) (i := (x : Int)) 4 rfl rfl rfl (by kernel_rfl) (by kernel_rfl) rfl rfl tabOk rfl rfl rfl (by omega) (by omega) ?_
        refine m_arith 10 rfl rfl rfl (by kernel_rfl) (by kernel_rfl) rfl rfl rfl rfl rfl (by simp only [lowK, hiK]; omega) ?_
        refine m_indexAddr (len := s.length + 1) (i := (x : Int) + (v.t (k + 1)).length) 11 rfl rfl rfl (by kernel_rfl) (by kernel_rfl) rfl rfl tabOk rfl rfl rfl (by omega) (by omega) ?_
        refine mix2 rfl rfl rfl ?_ ?_
        · refine ev_load rfl rfl tabOk rfl rfl c1 ?_
          refine mix_op ?_
          refine mix1 rfl rfl ?_
          refine ev_load rfl rfl tabOk rfl rfl c2 ?_
          refine mix_op ?_
          refine m_arith 13 rfl rfl rfl (by kernel_rfl) (by kernel_rfl) rfl rfl rfl rfl rfl (by simp only [lowK, hiK]; omega) ?_
          refine mix_run 400 tabOk rfl (by kernel_rfl) (by kernel_rfl) ?_
          refine m_indexAddr (len := s.length + 1) (i := (x : Int)) 15 rfl rfl rfl (by kernel_rfl) (by kernel_rfl) rfl rfl tabOk rfl rfl rfl (by omega) (by omega) ?_
          refine mix1 rfl rfl ?_
          obtain ⟨cs, hb7, h1, h3, h4⟩ := hR7
          have hput := Rw.put (j := x) (x := if r.getD (x + (v.t (k + 1)).length) 0 + 1 < r.getD x 0 then r.getD (x + (v.t (k + 1)).length) 0 + 1 else r.getD x 0) h1 h3 h4 (by omega)
          refine ev_store (o := 0 + (x : Int).toNat * 1) tabOk rfl rfl rfl rfl rfl rfl hb7 (by rw [Nat.blt_eq, h1]; omega) (fun w8 hb8 hf8 => ?_)
          rw [show 0 + (x : Int).toNat * 1 = x by omega] at hb8
          have hR8 : Rw w8 g (s.length + 1) _ := ⟨_, hb8, hput⟩
          have hf08 : Fr no w w8 := old (hf.tr hf7) (by omega) hf8
          have hB8 := (hB.fr0 hf7).fr hf8 (fun e => by have : p = g := e; omega)
          clear hb7 h1 h3 h4 hput hb8 hf8 hB hy hf hf7 c1 c2 hR
          refine mix_op ?_
          refine mix_out rfl ?_
          repeat (first
            | refine stepF_ok tabOk [] (m := 400) rfl ?_
            | refine stepF_ok tabOk [] (m := 16) rfl ?_
            | refine stepF_ok tabOk [] (m := 3) rfl ?_
            | refine stepF_ok tabOk [] (m := 0) rfl ?_
            | refine ev_load rfl rfl tabOk rfl rfl (by assumption) ?_
            | refine ev_loadB rfl rfl tabOk rfl rfl (by assumption) (by rfl) ?_
            | refine ev_loadAggB rfl rfl tabOk rfl rfl (by assumption) (by rfl) ?_
            | refine ev_arith rfl rfl rfl rfl rfl (by simp only [lowK, hiK]; omega) ?_
            | refine ev_rem rfl rfl rfl rfl (by omega) (by omega) ?_
            | refine ev_quo rfl rfl rfl rfl (by omega) (by omega) (by simp only [hiK]; omega) ?_
            | refine ev_index rfl rfl tabOk rfl rfl rfl (by omega) (by omega) ?_
            | refine ev_indexA rfl rfl tabOk rfl rfl rfl (by omega) (by omega) rfl ?_
            | refine ev_convB rfl rfl tabOk rfl rfl rfl rfl ?_
            | refine ev_conv rfl rfl tabOk rfl rfl rfl (by simp only [lowK, hiK]; omega) ?_)
          exact ev_next (k + 1) (by omega) ⟨by omega, ⟨_, hR8, hT2⟩, hf08, hB8⟩ ⟨rfl, rfl, rfl, rfl, rfl, rfl, rfl, rfl, trivial⟩
        · refine ev_load rfl rfl tabOk rfl rfl c2 ?_
          refine mix_op ?_
          refine m_arith 13 rfl rfl rfl (by kernel_rfl) (by kernel_rfl) rfl rfl rfl rfl rfl (by simp only [lowK, hiK]; omega) ?_
          refine mix1 rfl rfl ?_
          refine ev_load rfl rfl tabOk rfl rfl c1 ?_
          refine mix_op ?_
          refine mix_run 400 tabOk rfl (by kernel_rfl) (by kernel_rfl) ?_
          refine m_indexAddr (len := s.length + 1) (i := (x : Int)) 15 rfl rfl rfl (by kernel_rfl) (by kernel_rfl) rfl rfl tabOk rfl rfl rfl (by omega) (by omega) ?_
          refine mix1 rfl rfl ?_
          obtain ⟨cs, hb7, h1, h3, h4⟩ := hR7
          have hput := Rw.put (j := x) (x := if r.getD (x + (v.t (k + 1)).length) 0 + 1 < r.getD x 0 then r.getD (x + (v.t (k + 1)).length) 0 + 1 else r.getD x 0) h1 h3 h4 (by omega)
          refine ev_store (o := 0 + (x : Int).toNat * 1) tabOk rfl rfl rfl rfl rfl rfl hb7 (by rw [Nat.blt_eq, h1]; omega) (fun w8 hb8 hf8 => ?_)
          rw [show 0 + (x : Int).toNat * 1 = x by omega] at hb8
          have hR8 : Rw w8 g (s.length + 1) _ := ⟨_, hb8, hput⟩
          have hf08 : Fr no w w8 := old (hf.tr hf7) (by omega) hf8
          have hB8 := (hB.fr0 hf7).fr hf8 (fun e => by have : p = g := e; omega)
          clear hb7 h1 h3 h4 hput hb8 hf8 hB hy hf hf7 c1 c2 hR
          refine mix_op ?_
          refine mix_out rfl ?_
          repeat (first
            | refine stepF_ok tabOk [] (m := 400) rfl ?_
            | refine stepF_ok tabOk [] (m := 16) rfl ?_
            | refine stepF_ok tabOk [] (m := 3) rfl ?_
            | refine stepF_ok tabOk [] (m := 0) rfl ?_
            | refine ev_load rfl rfl tabOk rfl rfl (by assumption) ?_
            | refine ev_loadB rfl rfl tabOk rfl rfl (by assumption) (by rfl) ?_
            | refine ev_loadAggB rfl rfl tabOk rfl rfl (by assumption) (by rfl) ?_
            | refine ev_arith rfl rfl rfl rfl rfl (by simp only [lowK, hiK]; omega) ?_
            | refine ev_rem rfl rfl rfl rfl (by omega) (by omega) ?_
            | refine ev_quo rfl rfl rfl rfl (by omega) (by omega) (by simp only [hiK]; omega) ?_
            | refine ev_index rfl rfl tabOk rfl rfl rfl (by omega) (by omega) ?_
            | refine ev_indexA rfl rfl tabOk rfl rfl rfl (by omega) (by omega) rfl ?_
            | refine ev_convB rfl rfl tabOk rfl rfl rfl rfl ?_
            | refine ev_conv rfl rfl tabOk rfl rfl rfl (by simp only [lowK, hiK]; omega) ?_)
          exact ev_next (k + 1) (by omega) ⟨by omega, ⟨_, hR8, hT2⟩, hf08, hB8⟩ ⟨rfl, rfl, rfl, rfl, rfl, rfl, rfl, rfl, trivial⟩
      · have hT2 : Tk v s x (k + 1 + 1) r := hT.no fun h => h2 h.2
        repeat (first
          | refine stepF_ok tabOk [] (m := 400) rfl ?_
          | refine stepF_ok tabOk [] (m := 16) rfl ?_
          | refine stepF_ok tabOk [] (m := 3) rfl ?_
          | refine stepF_ok tabOk [] (m := 0) rfl ?_
          | refine ev_load rfl rfl tabOk rfl rfl (by assumption) ?_
          | refine ev_loadB rfl rfl tabOk rfl rfl (by assumption) (by rfl) ?_
          | refine ev_loadAggB rfl rfl tabOk rfl rfl (by assumption) (by rfl) ?_
          | refine ev_arith rfl rfl rfl rfl rfl (by simp only [lowK, hiK]; omega) ?_
          | refine ev_rem rfl rfl rfl rfl (by omega) (by omega) ?_
          | refine ev_quo rfl rfl rfl rfl (by omega) (by omega) (by simp only [hiK]; omega) ?_
          | refine ev_index rfl rfl tabOk rfl rfl rfl (by omega) (by omega) ?_
          | refine ev_indexA rfl rfl tabOk rfl rfl rfl (by omega) (by omega) rfl ?_
          | refine ev_convB rfl rfl tabOk rfl rfl rfl rfl ?_
          | refine ev_conv rfl rfl tabOk rfl rfl rfl (by simp only [lowK, hiK]; omega) ?_)
        exact ev_next (k + 1) (by omega) ⟨by omega, ⟨_, hR, hT2⟩, hf, hB⟩ ⟨rfl, rfl, rfl, rfl, rfl, rfl, rfl, rfl, trivial⟩
    · have hkn : k + 1 = v.texts.length := by omega
      rw [hkn] at hT
      repeat (first
        | refine stepF_ok tabOk [] (m := 400) rfl ?_
        | refine stepF_ok tabOk [] (m := 16) rfl ?_
        | refine stepF_ok tabOk [] (m := 3) rfl ?_
        | refine stepF_ok tabOk [] (m := 0) rfl ?_
        | refine ev_load rfl rfl tabOk rfl rfl (by assumption) ?_
        | refine ev_loadB rfl rfl tabOk rfl rfl (by assumption) (by rfl) ?_
        | refine ev_loadAggB rfl rfl tabOk rfl rfl (by assumption) (by rfl) ?_
        | refine ev_arith rfl rfl rfl rfl rfl (by simp only [lowK, hiK]; omega) ?_
        | refine ev_rem rfl rfl rfl rfl (by omega) (by omega) ?_
        | refine ev_quo rfl rfl rfl rfl (by omega) (by omega) (by simp only [hiK]; omega) ?_
        | refine ev_index rfl rfl tabOk rfl rfl rfl (by omega) (by omega) ?_
        | refine ev_indexA rfl rfl tabOk rfl rfl rfl (by omega) (by omega) rfl ?_
        | refine ev_convB rfl rfl tabOk rfl rfl rfl rfl ?_
        | refine ev_conv rfl rfl tabOk rfl rfl rfl (by simp only [lowK, hiK]; omega) ?_)
      exact ev_next x (by omega) ⟨by omega, ⟨r, hR, hT.done hok hxs⟩, hf, hB⟩ ⟨rfl, rfl, rfl, rfl, rfl, trivial⟩
  · have hq0 : q = 0 := by omega
    subst hq0
    have c0 := hR.cell (j := 0) (by rw [hT.1]; omega)
    have c0 : w3.cell? ⟨g, 0 + (0 : Int).toNat * 1, none⟩ = some (i64 (v.fp s 0)) := by rw [← hT.2 0 (Nat.le_refl _) (Nat.zero_le _)]; exact c0
    have hfm := fp_most v s 0
    repeat (first
      | refine stepF_ok tabOk [] (m := 400) rfl ?_
      | refine stepF_ok tabOk [] (m := 16) rfl ?_
      | refine stepF_ok tabOk [] (m := 3) rfl ?_
      | refine stepF_ok tabOk [] (m := 0) rfl ?_
      | refine ev_load rfl rfl tabOk rfl rfl (by assumption) ?_
      | refine ev_loadB rfl rfl tabOk rfl rfl (by assumption) (by rfl) ?_
      | refine ev_loadAggB rfl rfl tabOk rfl rfl (by assumption) (by rfl) ?_
      | refine ev_arith rfl rfl rfl rfl rfl (by simp only [lowK, hiK]; omega) ?_
      | refine ev_rem rfl rfl rfl rfl (by omega) (by omega) ?_
      | refine ev_quo rfl rfl rfl rfl (by omega) (by omega) (by simp only [hiK]; omega) ?_
      | refine ev_index rfl rfl tabOk rfl rfl rfl (by omega) (by omega) ?_
      | refine ev_indexA rfl rfl tabOk rfl rfl rfl (by omega) (by omega) rfl ?_
      | refine ev_convB rfl rfl tabOk rfl rfl rfl rfl ?_
      | refine ev_conv rfl rfl tabOk rfl rfl rfl (by simp only [lowK, hiK]; omega) ?_)
    refine ev_indexAddr (len := s.length + 1) (i := 0) rfl rfl tabOk rfl rfl rfl (by omega) (by omega) ?_
    repeat (first
      | refine stepF_ok tabOk [] (m := 400) rfl ?_
      | refine stepF_ok tabOk [] (m := 16) rfl ?_
      | refine stepF_ok tabOk [] (m := 3) rfl ?_
      | refine stepF_ok tabOk [] (m := 0) rfl ?_
      | refine ev_load rfl rfl tabOk rfl rfl (by assumption) ?_
      | refine ev_loadB rfl rfl tabOk rfl rfl (by assumption) (by rfl) ?_
      | refine ev_loadAggB rfl rfl tabOk rfl rfl (by assumption) (by rfl) ?_
      | refine ev_arith rfl rfl rfl rfl rfl (by simp only [lowK, hiK]; omega) ?_
      | refine ev_rem rfl rfl rfl rfl (by omega) (by omega) ?_
      | refine ev_quo rfl rfl rfl rfl (by omega) (by omega) (by simp only [hiK]; omega) ?_
      | refine ev_index rfl rfl tabOk rfl rfl rfl (by omega) (by omega) ?_
      | refine ev_indexA rfl rfl tabOk rfl rfl rfl (by omega) (by omega) rfl ?_
      | refine ev_convB rfl rfl tabOk rfl rfl rfl rfl ?_
      | refine ev_conv rfl rfl tabOk rfl rfl rfl (by simp only [lowK, hiK]; omega) ?_)
    refine ev_condD rfl (fun h2 => ?_) (fun h2 => ?_)
    · have h2 : ¬ v.fp s 0 ≤ s.length := by omega
      repeat (first
        | refine stepF_ok tabOk [] (m := 400) rfl ?_
        | refine stepF_ok tabOk [] (m := 16) rfl ?_
        | refine stepF_ok tabOk [] (m := 3) rfl ?_
        | refine stepF_ok tabOk [] (m := 0) rfl ?_
        | refine ev_load rfl rfl tabOk rfl rfl (by assumption) ?_
        | refine ev_loadB rfl rfl tabOk rfl rfl (by assumption) (by rfl) ?_
        | refine ev_loadAggB rfl rfl tabOk rfl rfl (by assumption) (by rfl) ?_
        | refine ev_arith rfl rfl rfl rfl rfl (by simp only [lowK, hiK]; omega) ?_
        | refine ev_rem rfl rfl rfl rfl (by omega) (by omega) ?_
        | refine ev_quo rfl rfl rfl rfl (by omega) (by omega) (by simp only [hiK]; omega) ?_
        | refine ev_index rfl rfl tabOk rfl rfl rfl (by omega) (by omega) ?_
        | refine ev_indexA rfl rfl tabOk rfl rfl rfl (by omega) (by omega) rfl ?_
        | refine ev_convB rfl rfl tabOk rfl rfl rfl rfl ?_
        | refine ev_conv rfl rfl tabOk rfl rfl rfl (by simp only [lowK, hiK]; omega) ?_)
      refine ev_call rfl rfl rfl (wReach A c B d v s _ (hV.fr0 hf) hS hok hc hc2 hs) (fun u w4 hu => ?_)
      obtain ⟨⟨f, rfl, hr1, hr2⟩, hf4⟩ := hu
      repeat (first
        | refine stepF_ok tabOk [] (m := 400) rfl ?_
        | refine stepF_ok tabOk [] (m := 16) rfl ?_
        | refine stepF_ok tabOk [] (m := 3) rfl ?_
        | refine stepF_ok tabOk [] (m := 0) rfl ?_
        | refine ev_load rfl rfl tabOk rfl rfl (by assumption) ?_
        | refine ev_loadB rfl rfl tabOk rfl rfl (by assumption) (by rfl) ?_
        | refine ev_loadAggB rfl rfl tabOk rfl rfl (by assumption) (by rfl) ?_
        | refine ev_arith rfl rfl rfl rfl rfl (by simp only [lowK, hiK]; omega) ?_
        | refine ev_rem rfl rfl rfl rfl (by omega) (by omega) ?_
        | refine ev_quo rfl rfl rfl rfl (by omega) (by omega) (by simp only [hiK]; omega) ?_
        | refine ev_index rfl rfl tabOk rfl rfl rfl (by omega) (by omega) ?_
        | refine ev_indexA rfl rfl tabOk rfl rfl rfl (by omega) (by omega) rfl ?_
        | refine ev_convB rfl rfl tabOk rfl rfl rfl rfl ?_
        | refine ev_conv rfl rfl tabOk rfl rfl rfl (by simp only [lowK, hiK]; omega) ?_)
      exact ret3 (.inr rfl) rfl rfl rfl rfl ⟨⟨.slice none 0 0, ([], f, 132), rfl, OI.nil _, fun h => absurd h0 h, fun _ h => absurd h h2, fun _ _ => ⟨rfl, rfl, hr1, hr2⟩⟩, hf.tr hf4⟩
    · have h2 : v.fp s 0 ≤ s.length := by omega
      clear c0 hfm hlt hq
      repeat (first
        | refine stepF_ok tabOk [] (m := 400) rfl ?_
        | refine stepF_ok tabOk [] (m := 16) rfl ?_
        | refine stepF_ok tabOk [] (m := 3) rfl ?_
        | refine stepF_ok tabOk [] (m := 0) rfl ?_
        | refine ev_load rfl rfl tabOk rfl rfl (by assumption) ?_
        | refine ev_loadB rfl rfl tabOk rfl rfl (by assumption) (by rfl) ?_
        | refine ev_loadAggB rfl rfl tabOk rfl rfl (by assumption) (by rfl) ?_
        | refine ev_arith rfl rfl rfl rfl rfl (by simp only [lowK, hiK]; omega) ?_
        | refine ev_rem rfl rfl rfl rfl (by omega) (by omega) ?_
        | refine ev_quo rfl rfl rfl rfl (by omega) (by omega) (by simp only [hiK]; omega) ?_
        | refine ev_index rfl rfl tabOk rfl rfl rfl (by omega) (by omega) ?_
        | refine ev_indexA rfl rfl tabOk rfl rfl rfl (by omega) (by omega) rfl ?_
        | refine ev_convB rfl rfl tabOk rfl rfl rfl rfl ?_
        | refine ev_conv rfl rfl tabOk rfl rfl rfl (by simp only [lowK, hiK]; omega) ?_)
      refine ev_loop (α := List Int × Value × Nat) (fun y => [(1, sv s), (2, .pointer (some ⟨p, 0, none⟩)), (10, .slice (some ⟨g, 0, none⟩) (s.length + 1) (s.length + 1)), (14, y.2.1), (15, i64 y.2.2)])
        (fun y w' => y.2.2 ≤ s.length ∧ v.fp s y.2.2 ≤ s.length ∧ v.few s [] 0 = v.few s y.1 y.2.2 ∧ y.1.length ≤ y.2.2 ∧ OI w' y.2.1 y.1 ∧ (∀ g', y.2.1.ownBlock = some g' → g < g') ∧ Rw w' g (s.length + 1) r ∧ Fr no w w' ∧ Blk w' p [.slice A v.texts.length c, .slice B v.merges.length d] 25) (fun y => s.length - y.2.2) ([], .slice none 0 0, 0) ⟨rfl, rfl, rfl, rfl, rfl, trivial⟩ ⟨Nat.zero_le _, h2, rfl, Nat.zero_le _, OI.nil _, fun g h => (by cases h), hR, hf, hB⟩ ?_
      clear hR hf hB
      rintro ⟨out, a, q⟩ w4 ⟨hq, hfq, hfew, hol, hO, hga, hR, hf, hB⟩
      simp only at hq hfq hfew hol hO hga
      repeat (first
        | refine stepF_ok tabOk [] (m := 400) rfl ?_
        | refine stepF_ok tabOk [] (m := 16) rfl ?_
        | refine stepF_ok tabOk [] (m := 3) rfl ?_
        | refine stepF_ok tabOk [] (m := 0) rfl ?_
        | refine ev_load rfl rfl tabOk rfl rfl (by assumption) ?_
        | refine ev_loadB rfl rfl tabOk rfl rfl (by assumption) (by rfl) ?_
        | refine ev_loadAggB rfl rfl tabOk rfl rfl (by assumption) (by rfl) ?_
        | refine ev_arith rfl rfl rfl rfl rfl (by simp only [lowK, hiK]; omega) ?_
        | refine ev_rem rfl rfl rfl rfl (by omega) (by omega) ?_
        | refine ev_quo rfl rfl rfl rfl (by omega) (by omega) (by simp only [hiK]; omega) ?_
        | refine ev_index rfl rfl tabOk rfl rfl rfl (by omega) (by omega) ?_
        | refine ev_indexA rfl rfl tabOk rfl rfl rfl (by omega) (by omega) rfl ?_
        | refine ev_convB rfl rfl tabOk rfl rfl rfl rfl ?_
        | refine ev_conv rfl rfl tabOk rfl rfl rfl (by simp only [lowK, hiK]; omega) ?_)
      refine ev_condD rfl (fun hlt => ?_) (fun hlt => ?_)
      · have hlt : q < s.length := by have : (q : Int) < s.length := hlt; omega
        obtain ⟨n1, n2, n3⟩ := nx_spec hok hlt hfq
        have hcq := hR.cell (j := q) (by rw [hT.1]; omega)
        rw [hT.2 q (Nat.zero_le _) hq] at hcq
        repeat (first
          | refine stepF_ok tabOk [] (m := 400) rfl ?_
          | refine stepF_ok tabOk [] (m := 16) rfl ?_
          | refine stepF_ok tabOk [] (m := 3) rfl ?_
          | refine stepF_ok tabOk [] (m := 0) rfl ?_
          | refine ev_load rfl rfl tabOk rfl rfl (by assumption) ?_
          | refine ev_loadB rfl rfl tabOk rfl rfl (by assumption) (by rfl) ?_
          | refine ev_loadAggB rfl rfl tabOk rfl rfl (by assumption) (by rfl) ?_
          | refine ev_arith rfl rfl rfl rfl rfl (by simp only [lowK, hiK]; omega) ?_
          | refine ev_rem rfl rfl rfl rfl (by omega) (by omega) ?_
          | refine ev_quo rfl rfl rfl rfl (by omega) (by omega) (by simp only [hiK]; omega) ?_
          | refine ev_index rfl rfl tabOk rfl rfl rfl (by omega) (by omega) ?_
          | refine ev_indexA rfl rfl tabOk rfl rfl rfl (by omega) (by omega) rfl ?_
          | refine ev_convB rfl rfl tabOk rfl rfl rfl rfl ?_
          | refine ev_conv rfl rfl tabOk rfl rfl rfl (by simp only [lowK, hiK]; omega) ?_)
        refine ev_loop (α := Nat) (fun k => [(1, sv s), (2, .pointer (some ⟨p, 0, none⟩)), (10, .slice (some ⟨g, 0, none⟩) (s.length + 1) (s.length + 1)), (14, a), (15, i64 q), (88, .slice A v.texts.length c), (89, i64 v.texts.length), (90, i64 k)])
          (fun k w' => k ≤ v.texts.length ∧ (∀ j, j < k → ¬ (v.sd s q j ∧ v.fp s (q + (v.t j).length) + 1 = v.fp s q)) ∧ OI w' a out ∧ Rw w' g (s.length + 1) r ∧ Fr no w w' ∧ Blk w' p [.slice A v.texts.length c, .slice B v.merges.length d] 25) (fun k => v.texts.length - k) 0 ⟨rfl, rfl, rfl, rfl, rfl, rfl, rfl, rfl, trivial⟩ ⟨Nat.zero_le _, fun j h => absurd h (Nat.not_lt_zero _), hO, hR, hf, hB⟩ ?_
        clear hO hR hf hB hcq
        rintro k w5 ⟨hk, hno, hO, hR, hf, hB⟩
        repeat (first
          | refine stepF_ok tabOk [] (m := 400) rfl ?_
          | refine stepF_ok tabOk [] (m := 16) rfl ?_
          | refine stepF_ok tabOk [] (m := 3) rfl ?_
          | refine stepF_ok tabOk [] (m := 0) rfl ?_
          | refine ev_load rfl rfl tabOk rfl rfl (by assumption) ?_
          | refine ev_loadB rfl rfl tabOk rfl rfl (by assumption) (by rfl) ?_
          | refine ev_loadAggB rfl rfl tabOk rfl rfl (by assumption) (by rfl) ?_
          | refine ev_arith rfl rfl rfl rfl rfl (by simp only [lowK, hiK]; omega) ?_
          | refine ev_rem rfl rfl rfl rfl (by omega) (by omega) ?_
          | refine ev_quo rfl rfl rfl rfl (by omega) (by omega) (by simp only [hiK]; omega) ?_
          | refine ev_index rfl rfl tabOk rfl rfl rfl (by omega) (by omega) ?_
          | refine ev_indexA rfl rfl tabOk rfl rfl rfl (by omega) (by omega) rfl ?_
          | refine ev_convB rfl rfl tabOk rfl rfl rfl rfl ?_
          | refine ev_conv rfl rfl tabOk rfl rfl rfl (by simp only [lowK, hiK]; omega) ?_)
        refine ev_condD rfl (fun hk2 => ?_) (fun hk2 => ?_)
        · have hk1 : k < v.texts.length := by omega
          obtain ⟨gc, oc, e1, hx⟩ := strs_at (hV.fr0 hf).1 hk1
          subst e1
          have hx : w5.cell? ⟨gc, oc + (k : Int).toNat * 1, none⟩ = some (sv (v.t k)) := hx
          have hle1 := hS.len k
          have pre : ∀ w', Fr no w5 w' → CallsF Try.prog 39 [sv (s.drop q), sv (v.t k)] w' fun u w'' => u = .bool (decide (v.t k <+: s.drop q)) ∧ Fr no w5 w'' := fun w' hw' => (wPre (s.drop q) (v.t k) w' (by rw [List.length_drop]; omega) hle1).mono fun u w'' z => ⟨z.1, z.2 ▸ hw'⟩
          have fin : ∀ w', Fr no w5 w' → OI w' a out ∧ Rw w' g (s.length + 1) r ∧ Fr no w w' ∧ Blk w' p [.slice (some ⟨gc, oc, none⟩) v.texts.length c, .slice B v.merges.length d] 25 := fun w' hw => ⟨hO.fr0 hw, hR.fr0 hw, hf.tr hw, hB.fr0 hw⟩
          have nxt : ∀ w', Fr no w5 w' → ¬ (v.sd s q k ∧ v.fp s (q + (v.t k).length) + 1 = v.fp s q) → k + 1 ≤ v.texts.length ∧ (∀ j, j < k + 1 → ¬ (v.sd s q j ∧ v.fp s (q + (v.t j).length) + 1 = v.fp s q)) ∧ OI w' a out ∧ Rw w' g (s.length + 1) r ∧ Fr no w w' ∧ Blk w' p [.slice (some ⟨gc, oc, none⟩) v.texts.length c, .slice B v.merges.length d] 25 := fun w' hw hn => ⟨by omega, fun j hj => by
            by_cases e : j = k
            · subst e; exact hn
            · exact hno j (by omega), fin w' hw⟩
          repeat (first
            | refine stepF_ok tabOk [] (m := 400) rfl ?_
            | refine stepF_ok tabOk [] (m := 16) rfl ?_
            | refine stepF_ok tabOk [] (m := 3) rfl ?_
            | refine stepF_ok tabOk [] (m := 0) rfl ?_
            | refine ev_load rfl rfl tabOk rfl rfl (by assumption) ?_
            | refine ev_loadB rfl rfl tabOk rfl rfl (by assumption) (by rfl) ?_
            | refine ev_loadAggB rfl rfl tabOk rfl rfl (by assumption) (by rfl) ?_
            | refine ev_arith rfl rfl rfl rfl rfl (by simp only [lowK, hiK]; omega) ?_
            | refine ev_rem rfl rfl rfl rfl (by omega) (by omega) ?_
            | refine ev_quo rfl rfl rfl rfl (by omega) (by omega) (by simp only [hiK]; omega) ?_
            | refine ev_index rfl rfl tabOk rfl rfl rfl (by omega) (by omega) ?_
            | refine ev_indexA rfl rfl tabOk rfl rfl rfl (by omega) (by omega) rfl ?_
            | refine ev_convB rfl rfl tabOk rfl rfl rfl rfl ?_
            | refine ev_conv rfl rfl tabOk rfl rfl rfl (by simp only [lowK, hiK]; omega) ?_)
          refine ev_indexAddr (len := v.texts.length) (i := k) rfl rfl tabOk rfl rfl rfl (by omega) (by omega) ?_
          repeat (first
            | refine stepF_ok tabOk [] (m := 400) rfl ?_
            | refine stepF_ok tabOk [] (m := 16) rfl ?_
            | refine stepF_ok tabOk [] (m := 3) rfl ?_
            | refine stepF_ok tabOk [] (m := 0) rfl ?_
            | refine ev_load rfl rfl tabOk rfl rfl (by assumption) ?_
            | refine ev_loadB rfl rfl tabOk rfl rfl (by assumption) (by rfl) ?_
            | refine ev_loadAggB rfl rfl tabOk rfl rfl (by assumption) (by rfl) ?_
            | refine ev_arith rfl rfl rfl rfl rfl (by simp only [lowK, hiK]; omega) ?_
            | refine ev_rem rfl rfl rfl rfl (by omega) (by omega) ?_
            | refine ev_quo rfl rfl rfl rfl (by omega) (by omega) (by simp only [hiK]; omega) ?_
            | refine ev_index rfl rfl tabOk rfl rfl rfl (by omega) (by omega) ?_
            | refine ev_indexA rfl rfl tabOk rfl rfl rfl (by omega) (by omega) rfl ?_
            | refine ev_convB rfl rfl tabOk rfl rfl rfl rfl ?_
            | refine ev_conv rfl rfl tabOk rfl rfl rfl (by simp only [lowK, hiK]; omega) ?_)
          by_cases hk0 : 0 < k
          · by_cases h3 : v.t k <+: s.drop q
            · have hsd : v.sd s q k := ⟨hk0, h3⟩
              have hle := sd_le hsd hq
              have hc1 : ∀ w', Fr no w5 w' → w'.cell? ⟨g, 0 + ((q : Int) + (v.t k).length).toNat * 1, none⟩ = some (i64 (v.fp s (q + (v.t k).length))) := fun w' hw' => by
                have := (hR.fr0 hw').cell (j := q + (v.t k).length) (by rw [hT.1]; omega)
                rw [hT.2 _ (Nat.zero_le _) hle] at this
                exact this
              have hc2' : ∀ w', Fr no w5 w' → w'.cell? ⟨g, 0 + (q : Int).toNat * 1, none⟩ = some (i64 (v.fp s q)) := fun w' hw' => by
                have := (hR.fr0 hw').cell (j := q) (by rw [hT.1]; omega)
                rw [hT.2 _ (Nat.zero_le _) hq] at this
                exact this
              refine ev_draw mixed (by kernel_rfl) ?_
              repeat (first
                | refine stepQF_ok tabOk (m := 400) rfl ?_
                | refine stepQF_ok tabOk (m := 16) rfl ?_
                | refine stepQF_ok tabOk (m := 3) rfl ?_
                | refine stepQF_ok tabOk (m := 0) rfl ?_
                | refine q_load rfl rfl tabOk rfl rfl (fun _ hf => cell_fr (by assumption) hf id) ?_
                | refine q_loadB rfl rfl tabOk rfl rfl (by assumption) (by rfl) ?_
                | refine q_loadAggB rfl rfl tabOk rfl rfl (by assumption) (by rfl) ?_
                | refine q_arith rfl rfl rfl rfl rfl (by simp only [lowK, hiK]; omega) ?_
                | refine q_rem rfl rfl rfl rfl (by omega) (by omega) ?_
                | refine q_quo rfl rfl rfl rfl (by omega) (by omega) (by simp only [hiK]; omega) ?_
                | refine q_index rfl rfl tabOk rfl rfl rfl (by omega) (by omega) ?_
                | refine q_convB rfl rfl tabOk rfl rfl rfl rfl ?_
                | refine q_conv rfl rfl tabOk rfl rfl rfl (by simp only [lowK, hiK]; omega) ?_)
              rw [show decide ((0 : Int) < k) = true from decide_eq_true (by omega)]
              repeat (first
                | refine stepQF_ok tabOk (m := 400) rfl ?_
                | refine stepQF_ok tabOk (m := 16) rfl ?_
                | refine stepQF_ok tabOk (m := 3) rfl ?_
                | refine stepQF_ok tabOk (m := 0) rfl ?_
                | refine q_load rfl rfl tabOk rfl rfl (fun _ hf => cell_fr (by assumption) hf id) ?_
                | refine q_loadB rfl rfl tabOk rfl rfl (by assumption) (by rfl) ?_
                | refine q_loadAggB rfl rfl tabOk rfl rfl (by assumption) (by rfl) ?_
                | refine q_arith rfl rfl rfl rfl rfl (by simp only [lowK, hiK]; omega) ?_
                | refine q_rem rfl rfl rfl rfl (by omega) (by omega) ?_
                | refine q_quo rfl rfl rfl rfl (by omega) (by omega) (by simp only [hiK]; omega) ?_
                | refine q_index rfl rfl tabOk rfl rfl rfl (by omega) (by omega) ?_
                | refine q_convB rfl rfl tabOk rfl rfl rfl rfl ?_
                | refine q_conv rfl rfl tabOk rfl rfl rfl (by simp only [lowK, hiK]; omega) ?_)
              refine q_sliceStr (s := s) (i := q) (j := s.length) rfl rfl tabOk rfl rfl rfl rfl (by omega) (by omega) (by omega) ?_
              rw [drop_all]
              repeat (first
                | refine stepQF_ok tabOk (m := 400) rfl ?_
                | refine stepQF_ok tabOk (m := 16) rfl ?_
                | refine stepQF_ok tabOk (m := 3) rfl ?_
                | refine stepQF_ok tabOk (m := 0) rfl ?_
                | refine q_load rfl rfl tabOk rfl rfl (fun _ hf => cell_fr (by assumption) hf id) ?_
                | refine q_loadB rfl rfl tabOk rfl rfl (by assumption) (by rfl) ?_
                | refine q_loadAggB rfl rfl tabOk rfl rfl (by assumption) (by rfl) ?_
                | refine q_arith rfl rfl rfl rfl rfl (by simp only [lowK, hiK]; omega) ?_
                | refine q_rem rfl rfl rfl rfl (by omega) (by omega) ?_
                | refine q_quo rfl rfl rfl rfl (by omega) (by omega) (by simp only [hiK]; omega) ?_
                | refine q_index rfl rfl tabOk rfl rfl rfl (by omega) (by omega) ?_
                | refine q_convB rfl rfl tabOk rfl rfl rfl rfl ?_
                | refine q_conv rfl rfl tabOk rfl rfl rfl (by simp only [lowK, hiK]; omega) ?_)
              refine q_call rfl rfl rfl pre ?_
              rw [decide_eq_true h3]
              repeat (first
                | refine stepQF_ok tabOk (m := 400) rfl ?_
                | refine stepQF_ok tabOk (m := 16) rfl ?_
                | refine stepQF_ok tabOk (m := 3) rfl ?_
                | refine stepQF_ok tabOk (m := 0) rfl ?_
                | refine q_load rfl rfl tabOk rfl rfl (fun _ hf => cell_fr (by assumption) hf id) ?_
                | refine q_loadB rfl rfl tabOk rfl rfl (by assumption) (by rfl) ?_
                | refine q_loadAggB rfl rfl tabOk rfl rfl (by assumption) (by rfl) ?_
                | refine q_arith rfl rfl rfl rfl rfl (by simp only [lowK, hiK]; omega) ?_
                | refine q_rem rfl rfl rfl rfl (by omega) (by omega) ?_
                | refine q_quo rfl rfl rfl rfl (by omega) (by omega) (by simp only [hiK]; omega) ?_
                | refine q_index rfl rfl tabOk rfl rfl rfl (by omega) (by omega) ?_
                | refine q_convB rfl rfl tabOk rfl rfl rfl rfl ?_
                | refine q_conv rfl rfl tabOk rfl rfl rfl (by simp only [lowK, hiK]; omega) ?_)
              refine q_indexAddr (len := s.length + 1) (i := (q : Int) + (v.t k).length) rfl rfl tabOk rfl rfl rfl (by omega) (by omega) ?_
              refine q_load rfl rfl tabOk rfl rfl hc1 ?_
              repeat (first
                | refine stepQF_ok tabOk (m := 400) rfl ?_
                | refine stepQF_ok tabOk (m := 16) rfl ?_
                | refine stepQF_ok tabOk (m := 3) rfl ?_
                | refine stepQF_ok tabOk (m := 0) rfl ?_
                | refine q_load rfl rfl tabOk rfl rfl (fun _ hf => cell_fr (by assumption) hf id) ?_
                | refine q_loadB rfl rfl tabOk rfl rfl (by assumption) (by rfl) ?_
                | refine q_loadAggB rfl rfl tabOk rfl rfl (by assumption) (by rfl) ?_
                | refine q_arith rfl rfl rfl rfl rfl (by simp only [lowK, hiK]; omega) ?_
                | refine q_rem rfl rfl rfl rfl (by omega) (by omega) ?_
                | refine q_quo rfl rfl rfl rfl (by omega) (by omega) (by simp only [hiK]; omega) ?_
                | refine q_index rfl rfl tabOk rfl rfl rfl (by omega) (by omega) ?_
                | refine q_convB rfl rfl tabOk rfl rfl rfl rfl ?_
                | refine q_conv rfl rfl tabOk rfl rfl rfl (by simp only [lowK, hiK]; omega) ?_)
              refine q_indexAddr (len := s.length + 1) (i := q) rfl rfl tabOk rfl rfl rfl (by omega) (by omega) ?_
              refine q_load rfl rfl tabOk rfl rfl hc2' ?_
              repeat (first
                | refine stepQF_ok tabOk (m := 400) rfl ?_
                | refine stepQF_ok tabOk (m := 16) rfl ?_
                | refine stepQF_ok tabOk (m := 3) rfl ?_
                | refine stepQF_ok tabOk (m := 0) rfl ?_
                | refine q_load rfl rfl tabOk rfl rfl (fun _ hf => cell_fr (by assumption) hf id) ?_
                | refine q_loadB rfl rfl tabOk rfl rfl (by assumption) (by rfl) ?_
                | refine q_loadAggB rfl rfl tabOk rfl rfl (by assumption) (by rfl) ?_
                | refine q_arith rfl rfl rfl rfl rfl (by simp only [lowK, hiK]; omega) ?_
                | refine q_rem rfl rfl rfl rfl (by omega) (by omega) ?_
                | refine q_quo rfl rfl rfl rfl (by omega) (by omega) (by simp only [hiK]; omega) ?_
                | refine q_index rfl rfl tabOk rfl rfl rfl (by omega) (by omega) ?_
                | refine q_convB rfl rfl tabOk rfl rfl rfl rfl ?_
                | refine q_conv rfl rfl tabOk rfl rfl rfl (by simp only [lowK, hiK]; omega) ?_)
              refine q_end fun w6 hf6 => ?_
              obtain ⟨hO6, hR6, hf06, hB6⟩ := fin w6 hf6
              have nxt6 := nxt w6 hf6
              have hno' := hno
              clear hO hR hf hB hx hc1 hc2' pre fin nxt hno
              refine ev_condD rfl (fun h4 => ?_) (fun h4 => ?_)
              · have hnx : v.nx s q = k := nx_is hk1 hno' ⟨hsd, by omega⟩
                rw [few_step hok hlt hfq, hnx] at hfew
                have hp0 := t_pos hok hk0 hk1
                repeat (first
                  | refine stepF_ok tabOk [] (m := 400) rfl ?_
                  | refine stepF_ok tabOk [] (m := 16) rfl ?_
                  | refine stepF_ok tabOk [] (m := 3) rfl ?_
                  | refine stepF_ok tabOk [] (m := 0) rfl ?_
                  | refine ev_load rfl rfl tabOk rfl rfl (by assumption) ?_
                  | refine ev_loadB rfl rfl tabOk rfl rfl (by assumption) (by rfl) ?_
                  | refine ev_loadAggB rfl rfl tabOk rfl rfl (by assumption) (by rfl) ?_
                  | refine ev_arith rfl rfl rfl rfl rfl (by simp only [lowK, hiK]; omega) ?_
                  | refine ev_rem rfl rfl rfl rfl (by omega) (by omega) ?_
                  | refine ev_quo rfl rfl rfl rfl (by omega) (by omega) (by simp only [hiK]; omega) ?_
                  | refine ev_index rfl rfl tabOk rfl rfl rfl (by omega) (by omega) ?_
                  | refine ev_indexA rfl rfl tabOk rfl rfl rfl (by omega) (by omega) rfl ?_
                  | refine ev_convB rfl rfl tabOk rfl rfl rfl rfl ?_
                  | refine ev_conv rfl rfl tabOk rfl rfl rfl (by simp only [lowK, hiK]; omega) ?_)
                refine ev_append1 tabOk rfl rfl (fun _ => rfl) rfl rfl inf3 rfl (by omega) (fun _ => rfl) rfl rfl (by simp [Value.cells]) (by simp [flatV, Value.cells, Value.oneCell']) rfl hO6 (by omega) (fun a2 w7 q7 hO7 hf7 hn7 => ?_)
                have hO7 : OI w7 a2 (out ++ [(k : Int)]) := OI.app (m := [(k : Int)]) hO7 rfl
                have hf07 : Fr no w w7 := hf06.trans hf7 (fun b hb h => by have := hga _ h; omega)
                have hB7 := hB6.fr hf7 (fun h => by have := hga _ h; omega)
                have hR7 := hR6.fr hf7 (fun h => by have := hga _ h; omega)
                have hg7 : ∀ g', a2.ownBlock = some g' → g < g' := fun g' h => by
                  rcases hn7 g' h with h | h
                  · exact hga g' h
                  · have := hR6.lt; omega
                clear hO6 hf7 hB6 hR6 hga hn7 nxt6
                repeat (first
                  | refine stepF_ok tabOk [] (m := 400) rfl ?_
                  | refine stepF_ok tabOk [] (m := 16) rfl ?_
                  | refine stepF_ok tabOk [] (m := 3) rfl ?_
                  | refine stepF_ok tabOk [] (m := 0) rfl ?_
                  | refine ev_load rfl rfl tabOk rfl rfl (by assumption) ?_
                  | refine ev_loadB rfl rfl tabOk rfl rfl (by assumption) (by rfl) ?_
                  | refine ev_loadAggB rfl rfl tabOk rfl rfl (by assumption) (by rfl) ?_
                  | refine ev_arith rfl rfl rfl rfl rfl (by simp only [lowK, hiK]; omega) ?_
                  | refine ev_rem rfl rfl rfl rfl (by omega) (by omega) ?_
                  | refine ev_quo rfl rfl rfl rfl (by omega) (by omega) (by simp only [hiK]; omega) ?_
                  | refine ev_index rfl rfl tabOk rfl rfl rfl (by omega) (by omega) ?_
                  | refine ev_indexA rfl rfl tabOk rfl rfl rfl (by omega) (by omega) rfl ?_
                  | refine ev_convB rfl rfl tabOk rfl rfl rfl rfl ?_
                  | refine ev_conv rfl rfl tabOk rfl rfl rfl (by simp only [lowK, hiK]; omega) ?_)
                exact ev_next (out ++ [(k : Int)], a2, q + (v.t k).length) (by simp only; omega) ⟨by simp only; omega, by simp only; omega, hfew, by simp only [List.length_append]; show out.length + 1 ≤ _; omega, hO7, hg7, hR7, hf07, hB7⟩ ⟨rfl, rfl, rfl, rfl, rfl, trivial⟩
              · have hz := nxt6 fun h => h4 (by omega)
                repeat (first
                  | refine stepF_ok tabOk [] (m := 400) rfl ?_
                  | refine stepF_ok tabOk [] (m := 16) rfl ?_
                  | refine stepF_ok tabOk [] (m := 3) rfl ?_
                  | refine stepF_ok tabOk [] (m := 0) rfl ?_
                  | refine ev_load rfl rfl tabOk rfl rfl (by assumption) ?_
                  | refine ev_loadB rfl rfl tabOk rfl rfl (by assumption) (by rfl) ?_
                  | refine ev_loadAggB rfl rfl tabOk rfl rfl (by assumption) (by rfl) ?_
                  | refine ev_arith rfl rfl rfl rfl rfl (by simp only [lowK, hiK]; omega) ?_
                  | refine ev_rem rfl rfl rfl rfl (by omega) (by omega) ?_
                  | refine ev_quo rfl rfl rfl rfl (by omega) (by omega) (by simp only [hiK]; omega) ?_
                  | refine ev_index rfl rfl tabOk rfl rfl rfl (by omega) (by omega) ?_
                  | refine ev_indexA rfl rfl tabOk rfl rfl rfl (by omega) (by omega) rfl ?_
                  | refine ev_convB rfl rfl tabOk rfl rfl rfl rfl ?_
                  | refine ev_conv rfl rfl tabOk rfl rfl rfl (by simp only [lowK, hiK]; omega) ?_)
                exact ev_next (k + 1) (by omega) hz ⟨rfl, rfl, rfl, rfl, rfl, rfl, rfl, rfl, trivial⟩
            · refine ev_draw mixed (by kernel_rfl) ?_
              repeat (first
                | refine stepQF_ok tabOk (m := 400) rfl ?_
                | refine stepQF_ok tabOk (m := 16) rfl ?_
                | refine stepQF_ok tabOk (m := 3) rfl ?_
                | refine stepQF_ok tabOk (m := 0) rfl ?_
                | refine q_load rfl rfl tabOk rfl rfl (fun _ hf => cell_fr (by assumption) hf id) ?_
                | refine q_loadB rfl rfl tabOk rfl rfl (by assumption) (by rfl) ?_
                | refine q_loadAggB rfl rfl tabOk rfl rfl (by assumption) (by rfl) ?_
                | refine q_arith rfl rfl rfl rfl rfl (by simp only [lowK, hiK]; omega) ?_
                | refine q_rem rfl rfl rfl rfl (by omega) (by omega) ?_
                | refine q_quo rfl rfl rfl rfl (by omega) (by omega) (by simp only [hiK]; omega) ?_
                | refine q_index rfl rfl tabOk rfl rfl rfl (by omega) (by omega) ?_
                | refine q_convB rfl rfl tabOk rfl rfl rfl rfl ?_
                | refine q_conv rfl rfl tabOk rfl rfl rfl (by simp only [lowK, hiK]; omega) ?_)
              rw [show decide ((0 : Int) < k) = true from decide_eq_true (by omega)]
              repeat (first
                | refine stepQF_ok tabOk (m := 400) rfl ?_
                | refine stepQF_ok tabOk (m := 16) rfl ?_
                | refine stepQF_ok tabOk (m := 3) rfl ?_
                | refine stepQF_ok tabOk (m := 0) rfl ?_
                | refine q_load rfl rfl tabOk rfl rfl (fun _ hf => cell_fr (by assumption) hf id) ?_
                | refine q_loadB rfl rfl tabOk rfl rfl (by assumption) (by rfl) ?_
                | refine q_loadAggB rfl rfl tabOk rfl rfl (by assumption) (by rfl) ?_
                | refine q_arith rfl rfl rfl rfl rfl (by simp only [lowK, hiK]; omega) ?_
                | refine q_rem rfl rfl rfl rfl (by omega) (by omega) ?_
                | refine q_quo rfl rfl rfl rfl (by omega) (by omega) (by simp only [hiK]; omega) ?_
                | refine q_index rfl rfl tabOk rfl rfl rfl (by omega) (by omega) ?_
                | refine q_convB rfl rfl tabOk rfl rfl rfl rfl ?_
                | refine q_conv rfl rfl tabOk rfl rfl rfl (by simp only [lowK, hiK]; omega) ?_)
              refine q_sliceStr (s := s) (i := q) (j := s.length) rfl rfl tabOk rfl rfl rfl rfl (by omega) (by omega) (by omega) ?_
              rw [drop_all]
              repeat (first
                | refine stepQF_ok tabOk (m := 400) rfl ?_
                | refine stepQF_ok tabOk (m := 16) rfl ?_
                | refine stepQF_ok tabOk (m := 3) rfl ?_
                | refine stepQF_ok tabOk (m := 0) rfl ?_
                | refine q_load rfl rfl tabOk rfl rfl (fun _ hf => cell_fr (by assumption) hf id) ?_
                | refine q_loadB rfl rfl tabOk rfl rfl (by assumption) (by rfl) ?_
                | refine q_loadAggB rfl rfl tabOk rfl rfl (by assumption) (by rfl) ?_
                | refine q_arith rfl rfl rfl rfl rfl (by simp only [lowK, hiK]; omega) ?_
                | refine q_rem rfl rfl rfl rfl (by omega) (by omega) ?_
                | refine q_quo rfl rfl rfl rfl (by omega) (by omega) (by simp only [hiK]; omega) ?_
                | refine q_index rfl rfl tabOk rfl rfl rfl (by omega) (by omega) ?_
                | refine q_convB rfl rfl tabOk rfl rfl rfl rfl ?_
                | refine q_conv rfl rfl tabOk rfl rfl rfl (by simp only [lowK, hiK]; omega) ?_)
              refine q_call rfl rfl rfl pre ?_
              rw [decide_eq_false h3]
              repeat (first
                | refine stepQF_ok tabOk (m := 400) rfl ?_
                | refine stepQF_ok tabOk (m := 16) rfl ?_
                | refine stepQF_ok tabOk (m := 3) rfl ?_
                | refine stepQF_ok tabOk (m := 0) rfl ?_
                | refine q_load rfl rfl tabOk rfl rfl (fun _ hf => cell_fr (by assumption) hf id) ?_
                | refine q_loadB rfl rfl tabOk rfl rfl (by assumption) (by rfl) ?_
                | refine q_loadAggB rfl rfl tabOk rfl rfl (by assumption) (by rfl) ?_
                | refine q_arith rfl rfl rfl rfl rfl (by simp only [lowK, hiK]; omega) ?_
                | refine q_rem rfl rfl rfl rfl (by omega) (by omega) ?_
                | refine q_quo rfl rfl rfl rfl (by omega) (by omega) (by simp only [hiK]; omega) ?_
                | refine q_index rfl rfl tabOk rfl rfl rfl (by omega) (by omega) ?_
                | refine q_convB rfl rfl tabOk rfl rfl rfl rfl ?_
                | refine q_conv rfl rfl tabOk rfl rfl rfl (by simp only [lowK, hiK]; omega) ?_)
              refine q_end fun w6 hf6 => ?_
              have hz := nxt w6 hf6 fun h => h3 h.1.2
              clear hO hR hf hB hx pre fin nxt hno
              repeat (first
                | refine stepF_ok tabOk [] (m := 400) rfl ?_
                | refine stepF_ok tabOk [] (m := 16) rfl ?_
                | refine stepF_ok tabOk [] (m := 3) rfl ?_
                | refine stepF_ok tabOk [] (m := 0) rfl ?_
                | refine ev_load rfl rfl tabOk rfl rfl (by assumption) ?_
                | refine ev_loadB rfl rfl tabOk rfl rfl (by assumption) (by rfl) ?_
                | refine ev_loadAggB rfl rfl tabOk rfl rfl (by assumption) (by rfl) ?_
                | refine ev_arith rfl rfl rfl rfl rfl (by simp only [lowK, hiK]; omega) ?_
                | refine ev_rem rfl rfl rfl rfl (by omega) (by omega) ?_
                | refine ev_quo rfl rfl rfl rfl (by omega) (by omega) (by simp only [hiK]; omega) ?_
                | refine ev_index rfl rfl tabOk rfl rfl rfl (by omega) (by omega) ?_
                | refine ev_indexA rfl rfl tabOk rfl rfl rfl (by omega) (by omega) rfl ?_
                | refine ev_convB rfl rfl tabOk rfl rfl rfl rfl ?_
                | refine ev_conv rfl rfl tabOk rfl rfl rfl (by simp only [lowK, hiK]; omega) ?_)
              exact ev_next (k + 1) (by omega) hz ⟨rfl, rfl, rfl, rfl, rfl, rfl, rfl, rfl, trivial⟩
          · refine ev_draw mixed (by kernel_rfl) ?_
            repeat (first
              | refine stepQF_ok tabOk (m := 400) rfl ?_
              | refine stepQF_ok tabOk (m := 16) rfl ?_
              | refine stepQF_ok tabOk (m := 3) rfl ?_
              | refine stepQF_ok tabOk (m := 0) rfl ?_
              | refine q_load rfl rfl tabOk rfl rfl (fun _ hf => cell_fr (by assumption) hf id) ?_
              | refine q_loadB rfl rfl tabOk rfl rfl (by assumption) (by rfl) ?_
              | refine q_loadAggB rfl rfl tabOk rfl rfl (by assumption) (by rfl) ?_
              | refine q_arith rfl rfl rfl rfl rfl (by simp only [lowK, hiK]; omega) ?_
              | refine q_rem rfl rfl rfl rfl (by omega) (by omega) ?_
              | refine q_quo rfl rfl rfl rfl (by omega) (by omega) (by simp only [hiK]; omega) ?_
              | refine q_index rfl rfl tabOk rfl rfl rfl (by omega) (by omega) ?_
              | refine q_convB rfl rfl tabOk rfl rfl rfl rfl ?_
              | refine q_conv rfl rfl tabOk rfl rfl rfl (by simp only [lowK, hiK]; omega) ?_)
            rw [show decide ((0 : Int) < k) = false from decide_eq_false (by omega)]
            repeat (first
              | refine stepQF_ok tabOk (m := 400) rfl ?_
              | refine stepQF_ok tabOk (m := 16) rfl ?_
              | refine stepQF_ok tabOk (m := 3) rfl ?_
              | refine stepQF_ok tabOk (m := 0) rfl ?_
              | refine q_load rfl rfl tabOk rfl rfl (fun _ hf => cell_fr (by assumption) hf id) ?_
              | refine q_loadB rfl rfl tabOk rfl rfl (by assumption) (by rfl) ?_
              | refine q_loadAggB rfl rfl tabOk rfl rfl (by assumption) (by rfl) ?_
              | refine q_arith rfl rfl rfl rfl rfl (by simp only [lowK, hiK]; omega) ?_
              | refine q_rem rfl rfl rfl rfl (by omega) (by omega) ?_
              | refine q_quo rfl rfl rfl rfl (by omega) (by omega) (by simp only [hiK]; omega) ?_
              | refine q_index rfl rfl tabOk rfl rfl rfl (by omega) (by omega) ?_
              | refine q_convB rfl rfl tabOk rfl rfl rfl rfl ?_
              | refine q_conv rfl rfl tabOk rfl rfl rfl (by simp only [lowK, hiK]; omega) ?_)
            refine q_end fun w6 hf6 => ?_
            have hz := nxt w6 hf6 fun h => hk0 h.1.1
            clear hO hR hf hB hx pre fin nxt hno
            repeat (first
              | refine stepF_ok tabOk [] (m := 400) rfl ?_
              | refine stepF_ok tabOk [] (m := 16) rfl ?_
              | refine stepF_ok tabOk [] (m := 3) rfl ?_
              | refine stepF_ok tabOk [] (m := 0) rfl ?_
              | refine ev_load rfl rfl tabOk rfl rfl (by assumption) ?_
              | refine ev_loadB rfl rfl tabOk rfl rfl (by assumption) (by rfl) ?_
              | refine ev_loadAggB rfl rfl tabOk rfl rfl (by assumption) (by rfl) ?_
              | refine ev_arith rfl rfl rfl rfl rfl (by simp only [lowK, hiK]; omega) ?_
              | refine ev_rem rfl rfl rfl rfl (by omega) (by omega) ?_
              | refine ev_quo rfl rfl rfl rfl (by omega) (by omega) (by simp only [hiK]; omega) ?_
              | refine ev_index rfl rfl tabOk rfl rfl rfl (by omega) (by omega) ?_
              | refine ev_indexA rfl rfl tabOk rfl rfl rfl (by omega) (by omega) rfl ?_
              | refine ev_convB rfl rfl tabOk rfl rfl rfl rfl ?_
              | refine ev_conv rfl rfl tabOk rfl rfl rfl (by simp only [lowK, hiK]; omega) ?_)
            exact ev_next (k + 1) (by omega) hz ⟨rfl, rfl, rfl, rfl, rfl, rfl, rfl, rfl, trivial⟩
        · have hkn : k = v.texts.length := by omega
          subst hkn
          exact absurd ⟨n2, n3⟩ (hno _ n1)
      · have hlt : ¬ q < s.length := by have : ¬ (q : Int) < s.length := hlt; omega
        rw [few_end hlt] at hfew
        repeat (first
          | refine stepF_ok tabOk [] (m := 400) rfl ?_
          | refine stepF_ok tabOk [] (m := 16) rfl ?_
          | refine stepF_ok tabOk [] (m := 3) rfl ?_
          | refine stepF_ok tabOk [] (m := 0) rfl ?_
          | refine ev_load rfl rfl tabOk rfl rfl (by assumption) ?_
          | refine ev_loadB rfl rfl tabOk rfl rfl (by assumption) (by rfl) ?_
          | refine ev_loadAggB rfl rfl tabOk rfl rfl (by assumption) (by rfl) ?_
          | refine ev_arith rfl rfl rfl rfl rfl (by simp only [lowK, hiK]; omega) ?_
          | refine ev_rem rfl rfl rfl rfl (by omega) (by omega) ?_
          | refine ev_quo rfl rfl rfl rfl (by omega) (by omega) (by simp only [hiK]; omega) ?_
          | refine ev_index rfl rfl tabOk rfl rfl rfl (by omega) (by omega) ?_
          | refine ev_indexA rfl rfl tabOk rfl rfl rfl (by omega) (by omega) rfl ?_
          | refine ev_convB rfl rfl tabOk rfl rfl rfl rfl ?_
          | refine ev_conv rfl rfl tabOk rfl rfl rfl (by simp only [lowK, hiK]; omega) ?_)
        exact ret3 (.inr rfl) rfl rfl rfl rfl ⟨⟨a, (out, 0, 0), rfl, hO, fun h => absurd h0 h, fun _ _ => by rw [hfew], fun _ h => absurd h2 h⟩, hf⟩
end Go.Wk.Ytjdfdahdobikmaa
