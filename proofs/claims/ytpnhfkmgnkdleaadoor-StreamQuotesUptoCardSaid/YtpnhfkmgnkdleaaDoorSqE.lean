/-
  The walks of chapter 14: the unquoter's escape.
-/
import Derived.Test.YtpnhfkmgnkdleaaDoorSqD
import Derived.Test.YtpnhfkmgnkdleaaDoorSqP
import Derived.Test.YtpnhfkmgnkdleaaDoorStF
set_option linter.unusedVariables false
namespace Go.Wk.YtpnhfkmgnkdleaaDoor
open Go Go.Wk Go.Proofs

/-- what an unquoter's step leaves -/
def UqS (p : Nat) (t : List UInt8) (w : World) (v : Value) (w' : World) (q : Nat) (out : List UInt8) : Prop := ∃ v', Uq w' p t q v' ∧ Ob (p + 1) w' v' out ∧ Fr (fun b => p ≤ b) w w'

theorem uqEscape (p : Nat) (t : List UInt8) (q : Nat) (v : Value) (out : List UInt8) (w : World) (h : Uq w p t q v) (ho : Ob (p + 1) w v out) (ht : t.length ≤ 1000000000) (hq : q ≤ t.length) (hl : out.length ≤ 4000000000) :
    CallsF Tryd.prog 85 [.pointer (some ⟨p, 0, none⟩)] w fun r w' => r = .bool (escF t q).1 ∧ UqS p t w v w' (escF t q).2.2 (out ++ (escF t q).2.1) := by
  have hne : ∀ g, v.ownBlock = some g → g ≠ p := fun g hg => by have := ho.ge hg; omega
  have hup : ∀ {w' : World}, Fr (fun b => b = p ∨ v.ownBlock = some b) w w' → Fr (fun b => p ≤ b) w w' := fun h => h.mono fun b _ z => z.elim (fun z => by omega) fun z => by have := ho.ge z; omega
  refine callsF Tryd.func85 rfl rfl (by decide) rfl ?_
  refine sA [] rfl ?_
  refine ev_call rfl rfl rfl (uqNext p t q v _ h hq (by omega)) (fun r w1 hr => ?_)
  obtain ⟨rfl, hf1⟩ := hr
  have h1 := h.fr0 hf1
  have ho1 : Ob (p + 1) w1 v out := Ob.of (ho.own.fr0 hf1) (fun g hg => ho.ge hg)
  clear h ho
  by_cases hlt : q < t.length
  · rw [decide_eq_true hlt]
    obtain ⟨c, hc⟩ : ∃ c, c = t.getD q 0 := ⟨_, rfl⟩
    rw [← hc]
    have hli := ltr_idx c
    refine sA [] rfl ?_
    refine ev_call rfl rfl rfl (wIdx ltrs c _) (fun r w2 hr => ?_)
    obtain ⟨rfl, rfl⟩ := hr
    refine sC [] rfl ?_; refine sD [] rfl ?_; refine sD [] rfl ?_; refine sD [] rfl ?_
    refine ev_condD rfl (fun h8 => ?_) (fun h8 => ?_)
    · obtain ⟨hi8, hiv⟩ := hli.2 h8
      have hl0 : ltr c ≠ 0 := fun z => by have := hli.1.2 z; omega
      have hE : escF t q = (true, [ltr c], q + 1) := by unfold escF; rw [← hc, if_neg (fun z => z hlt), if_pos hl0]
      refine sA [] rfl ?_
      refine mix_in mixed (fun w3 hf3 => ?_)
      have h3 := h1.fr0 hf3
      have ho3 := ho1.own.fr0 hf3
      refine mA rfl (by kernel_rfl) (by kernel_rfl) ?_
      refine m_index (s := ltrv) (i := Lib.indexByte ltrs c) 6 rfl rfl rfl (by kernel_rfl) (by kernel_rfl) rfl rfl tabOk rfl rfl rfl (by omega) (by show _ < (8 : Int); omega) ?_
      rw [hiv]
      have c2 : w3.cell? ⟨p, 0 + 2, none⟩ = some v := h3.cell rfl
      refine mix2 rfl rfl rfl ?_ ?_
      · refine ev_load rfl rfl tabOk rfl rfl c2 ?_
        refine mix_op ?_
        refine mix1 rfl rfl ?_
        refine ev_buildSlice tabOk rfl rfl rfl inf5 rfl rfl rfl (by simp [Value.cells]) rfl (fun g w4 hg4 hb4 hf4 => ?_)
        have hb4 : Blk w4 g [bv (ltr c)] 5 := hb4
        have h4 := h3.fr0 hf4
        have ho4 := ho3.fr0 hf4
        refine mix_op ?_
        refine mix1 rfl rfl ?_
        refine ev_append (z := .int .u8 0) (b := 1) (xs := out.map bv) (A := some ⟨g, 0, none⟩) (m := 1) (c := 1) (news := [bv (ltr c)]) tabOk rfl rfl rfl inf5 rfl (by omega) rfl rfl ho4 (Cs.of_blk hb4) (by simp) (by simp [Value.oneCell', bv]) (by omega) (fun v5 w5 ho5 hf5 hn5 => ?_)
        have hn5' := NB.of hn5
        have h5 := h4.fr hf5 (fun e => hne _ e rfl)
        refine mix_op ?_
        refine mA rfl (by kernel_rfl) (by kernel_rfl) ?_
        have hpl : p < w4.heap.size := h4.lt
        have hn6 : ∀ g, v5.ownBlock = some g → p + 1 ≤ g := fun g hg => by
          rcases hn5' g hg with z | z
          · exact ho1.ge z
          · omega
        refine mix1 rfl rfl ?_
        refine ev_store tabOk rfl rfl rfl rfl rfl ?_ h5 rfl (fun w6 h6 hf6 => ?_)
        · rcases ho5.2 with ⟨rfl, _⟩ | ⟨g, cap, cur, rfl, _⟩ <;> rfl
        have ho6 := ho5.fr hf6 (fun g hg z => by have := hn6 g hg; have : g = p := z; omega)
        refine mix_op ?_
        refine mix_out rfl ?_
        have hF6 : Fr (fun b => b = p ∨ v.ownBlock = some b) w w6 := (((((hf1.tr hf3).tr hf4).mono fun _ _ z => z.elim).trans hf5 fun _ _ z => .inr z).trans hf6 fun _ _ z => .inl z)
        have hz : w.heap.size ≤ w4.heap.size := ((hf1.tr hf3).tr hf4).size
        clear h5 h4 ho5 hf5 hf6 h3 ho3 h1 hb4 ho4 hf4 hn5
        have hnb := hn5'
        refine sA [] rfl ?_; refine ev_loadB rfl rfl tabOk rfl rfl ‹_› (by rfl) ?_; refine ev_arith rfl rfl rfl rfl rfl (by simp only [lowK, hiK]; omega) ?_; refine sA [] rfl ?_
        refine ev_store tabOk rfl rfl rfl rfl rfl rfl h6 rfl (fun w7 h7 hf7 => ?_)
        have ho7 := ho6.fr hf7 (fun g hg z => by have := hn6 g hg; have : g = p := z; omega)
        have hF7 := hF6.trans hf7 fun _ _ z => .inl z
        clear h6 hf7
        refine sA [] rfl ?_
        refine ret1 (.inr rfl) rfl rfl ⟨by rw [hE], by rw [hE]; exact ⟨v5, h7, Ob.of (by rw [List.length_append, List.map_append]; exact ho7) hn6, hup hF7⟩⟩
      · refine ev_buildSlice tabOk rfl rfl rfl inf5 rfl rfl rfl (by simp [Value.cells]) rfl (fun g w4 hg4 hb4 hf4 => ?_)
        have hb4 : Blk w4 g [bv (ltr c)] 5 := hb4
        have h4 := h3.fr0 hf4
        have ho4 := ho3.fr0 hf4
        have c4 : w4.cell? ⟨p, 0 + 2, none⟩ = some v := h4.cell rfl
        refine mix_op ?_
        refine mix1 rfl rfl ?_
        refine ev_load rfl rfl tabOk rfl rfl c4 ?_
        refine mix_op ?_
        refine mix1 rfl rfl ?_
        refine ev_append (z := .int .u8 0) (b := 1) (xs := out.map bv) (A := some ⟨g, 0, none⟩) (m := 1) (c := 1) (news := [bv (ltr c)]) tabOk rfl rfl rfl inf5 rfl (by omega) rfl rfl ho4 (Cs.of_blk hb4) (by simp) (by simp [Value.oneCell', bv]) (by omega) (fun v5 w5 ho5 hf5 hn5 => ?_)
        have hn5' := NB.of hn5
        have h5 := h4.fr hf5 (fun e => hne _ e rfl)
        refine mix_op ?_
        refine mA rfl (by kernel_rfl) (by kernel_rfl) ?_
        have hpl : p < w4.heap.size := h4.lt
        have hn6 : ∀ g, v5.ownBlock = some g → p + 1 ≤ g := fun g hg => by
          rcases hn5' g hg with z | z
          · exact ho1.ge z
          · omega
        refine mix1 rfl rfl ?_
        refine ev_store tabOk rfl rfl rfl rfl rfl ?_ h5 rfl (fun w6 h6 hf6 => ?_)
        · rcases ho5.2 with ⟨rfl, _⟩ | ⟨g, cap, cur, rfl, _⟩ <;> rfl
        have ho6 := ho5.fr hf6 (fun g hg z => by have := hn6 g hg; have : g = p := z; omega)
        refine mix_op ?_
        refine mix_out rfl ?_
        have hF6 : Fr (fun b => b = p ∨ v.ownBlock = some b) w w6 := (((((hf1.tr hf3).tr hf4).mono fun _ _ z => z.elim).trans hf5 fun _ _ z => .inr z).trans hf6 fun _ _ z => .inl z)
        have hz : w.heap.size ≤ w4.heap.size := ((hf1.tr hf3).tr hf4).size
        clear h5 h4 ho5 hf5 hf6 h3 ho3 h1 hb4 ho4 hf4 hn5
        have hnb := hn5'
        refine sA [] rfl ?_; refine ev_loadB rfl rfl tabOk rfl rfl ‹_› (by rfl) ?_; refine ev_arith rfl rfl rfl rfl rfl (by simp only [lowK, hiK]; omega) ?_; refine sA [] rfl ?_
        refine ev_store tabOk rfl rfl rfl rfl rfl rfl h6 rfl (fun w7 h7 hf7 => ?_)
        have ho7 := ho6.fr hf7 (fun g hg z => by have := hn6 g hg; have : g = p := z; omega)
        have hF7 := hF6.trans hf7 fun _ _ z => .inl z
        clear h6 hf7
        refine sA [] rfl ?_
        refine ret1 (.inr rfl) rfl rfl ⟨by rw [hE], by rw [hE]; exact ⟨v5, h7, Ob.of (by rw [List.length_append, List.map_append]; exact ho7) hn6, hup hF7⟩⟩
    · have hl0 : ltr c = 0 := hli.1.1 (by omega)
      have hE0 : ∀ x, (if t.getD q 0 ≠ 117 then (false, [], q)
  else if (four t false (q + 1)).1 = false then (false, [], (four t false (q + 1)).2.2)
  else if 55296 ≤ (four t false (q + 1)).2.1 ∧ (four t false (q + 1)).2.1 < 56320 then
    (if ¬ (q + 5 < t.length ∧ t.getD (q + 5) 0 = 92) then (false, [], q + 5)
     else if ¬ (q + 6 < t.length ∧ t.getD (q + 6) 0 = 117) then (false, [], q + 6)
     else if (four t true (q + 7)).1 = false then (false, [], (four t true (q + 7)).2.2)
     else (true, rb (65536 + 1024 * ((four t false (q + 1)).2.1 - 55296) + (four t true (q + 7)).2.1 - 56320), q + 11))
  else (true, rb (four t false (q + 1)).2.1, q + 5)) = x → escF t q = x := fun x hx => by
        unfold escF; rw [if_neg (fun z => z hlt), if_neg (by rw [← hc, hl0]; exact fun z => z rfl)]; exact hx
      rw [← hc] at hE0
      refine sC [] rfl ?_; refine sD [] rfl ?_; refine sD [] rfl ?_; refine sD [] rfl ?_
      refine ev_condD rfl (fun h9 => ?_) (fun h9 => ?_)
      · have hn : c ≠ 117 := fun e => h9 (by rw [e]; rfl)
        have hE := hE0 _ (if_pos hn)
        refine sA [] rfl ?_
        exact ret1 (.inr rfl) rfl rfl ⟨by rw [hE], by rw [hE, List.append_nil]; exact ⟨v, h1, ho1, hf1.mono fun _ _ z => z.elim⟩⟩
      · have hn : c = 117 := UInt8.toNat_inj.1 (by have := Decidable.not_not.1 h9; show c.toNat = 117; omega)
        rw [if_neg (fun z => z hn)] at hE0
        refine sA [] rfl ?_; refine ev_loadB rfl rfl tabOk rfl rfl ‹_› (by rfl) ?_; refine ev_arith rfl rfl rfl rfl rfl (by simp only [lowK, hiK]; omega) ?_; refine sA [] rfl ?_
        refine ev_store tabOk rfl rfl rfl rfl rfl rfl h1 rfl (fun w3 h3 hf3 => ?_)
        have ho3 := ho1.own.fr hf3 (fun g hg z => hne g hg z)
        have hF3 : Fr (fun b => b = p ∨ v.ownBlock = some b) w w3 := (hf1.mono fun _ _ z => z.elim).trans hf3 fun _ _ z => .inl z
        have h3 : Uq w3 p t (q + 1) v := h3
        clear h1 hf3
        refine sA [] rfl ?_
        refine ev_call rfl rfl rfl (uqUnit p t false (q + 1) v _ h3 (by omega) (by omega)) (fun r w4 hr => ?_)
        obtain ⟨rfl, h4, hf4⟩ := hr
        have ho4 := ho3.fr hf4 (fun g hg z => hne g hg z)
        have hF4 := hF3.trans hf4 fun _ _ z => .inl z
        have hfa : (four t false (q + 1)).1 = true → (four t false (q + 1)).2.2 = q + 1 + 4 := four_at (t := t) (low := false) 4 0 0 (q + 1)
        have hfl : (four t false (q + 1)).2.2 ≤ t.length := four_le (t := t) (low := false) 4 0 0 (q + 1) (by omega)
        have hbd := four_bd (t := t) (low := false) (q := q + 1)
        obtain ⟨f1, e1⟩ : ∃ x, x = (four t false (q + 1)).1 := ⟨_, rfl⟩
        obtain ⟨f2, e2⟩ : ∃ x, x = (four t false (q + 1)).2.1 := ⟨_, rfl⟩
        obtain ⟨f3, e3⟩ : ∃ x, x = (four t false (q + 1)).2.2 := ⟨_, rfl⟩
        rw [← e3] at h4 hfl
        rw [← e1, ← e2, ← e3] at hE0
        rw [← e1, ← e3] at hfa
        rw [← e1, ← e2] at hbd
        rw [← e1, ← e2]
        clear h3 ho3 hF3 hf4
        have bad : ∀ (x : Nat) w', escF t q = (false, [], x) → Uq w' p t x v → Own w' 5 1 v out.length (out.map bv) → Fr (fun b => b = p ∨ v.ownBlock = some b) w w' → UqS p t w v w' (escF t q).2.2 (out ++ (escF t q).2.1) := fun x w' e hx ho hf => by
          rw [e, List.append_nil]; exact ⟨v, hx, Ob.of ho (fun g hg => ho1.ge hg), hup hf⟩
        refine sC [] rfl ?_; refine sC [] rfl ?_; refine sC [] rfl ?_
        cases f1 with
        | false =>
          have hE := hE0 _ (if_pos rfl)
          refine sA [] rfl ?_
          exact ret1 (.inr rfl) rfl rfl ⟨by rw [hE], bad _ _ hE h4 ho4 hF4⟩
        | true =>
          have hf3 := hfa rfl
          rw [if_neg (by decide)] at hE0
          rw [hf3] at h4 hfl
          have hbd := hbd rfl
          have h4 : Uq w4 p t (q + 5) v := h4
          refine sC [] rfl ?_; refine sC [] rfl ?_
          refine ev_join2 (α := Int × Nat) (fun y => [(0, .pointer (some ⟨p, 0, none⟩)), (6, .int .i32 y.1)]) (fun y w' => escF t q = (true, rb y.1, y.2) ∧ -2147483648 ≤ y.1 ∧ y.1 ≤ 2147483647 ∧ y.2 ≤ t.length ∧ Uq w' p t y.2 v ∧ Own w' 5 1 v out.length (out.map bv) ∧ Fr (fun b => b = p ∨ v.ownBlock = some b) w w') ?_ ?_
          · by_cases s1 : 55296 ≤ f2
            · rw [show decide (55296 ≤ f2) = true from decide_eq_true s1]
              refine sC [] rfl ?_
              refine ev_condD rfl (fun s2 => ?_) (fun s2 => ?_)
              · rw [if_pos ⟨s1, s2⟩] at hE0
                refine sA [] rfl ?_
                refine ev_call rfl rfl rfl (uqIs p t (q + 5) v 92 _ h4 (by omega) (by omega)) (fun r w5 hr => ?_)
                obtain ⟨rfl, h5, hf5⟩ := hr
                have ho5 := ho4.fr hf5 (fun g hg z => hne g hg z)
                have hF5 := hF4.trans hf5 fun _ _ z => .inl z
                clear h4 ho4 hF4 hf5
                by_cases u1 : q + 5 < t.length ∧ t.getD (q + 5) 0 = 92
                · rw [decide_eq_true u1]
                  rw [if_pos u1] at h5
                  rw [if_neg fun z => z u1] at hE0
                  refine sA [] rfl ?_
                  refine ev_call rfl rfl rfl (uqIs p t (q + 5 + 1) v 117 _ h5 (by omega) (by omega)) (fun r w6 hr => ?_)
                  obtain ⟨rfl, h6, hf6⟩ := hr
                  have ho6 := ho5.fr hf6 (fun g hg z => hne g hg z)
                  have hF6 := hF5.trans hf6 fun _ _ z => .inl z
                  clear h5 ho5 hF5 hf6
                  by_cases u2 : q + 5 + 1 < t.length ∧ t.getD (q + 5 + 1) 0 = 117
                  · rw [decide_eq_true u2]
                    rw [if_pos u2] at h6
                    rw [if_neg fun z => z u2] at hE0
                    refine sA [] rfl ?_
                    refine ev_call rfl rfl rfl (uqUnit p t true (q + 5 + 1 + 1) v _ h6 (by omega) (by omega)) (fun r w7 hr => ?_)
                    obtain ⟨rfl, h7, hf7⟩ := hr
                    have ho7 := ho6.fr hf7 (fun g hg z => hne g hg z)
                    have hF7 := hF6.trans hf7 fun _ _ z => .inl z
                    clear h6 ho6 hF6 hf7
                    have hga : (four t true (q + 7)).1 = true → (four t true (q + 7)).2.2 = q + 7 + 4 := four_at (t := t) (low := true) 4 0 0 (q + 7)
                    have hgl : (four t true (q + 7)).2.2 ≤ t.length := four_le (t := t) (low := true) 4 0 0 (q + 7) (by omega)
                    have hgd := four_bd (t := t) (low := true) (q := q + 7)
                    have h7 : Uq w7 p t (four t true (q + 7)).2.2 v := h7
                    obtain ⟨g1, d1⟩ : ∃ x, x = (four t true (q + 7)).1 := ⟨_, rfl⟩
                    obtain ⟨g2, d2⟩ : ∃ x, x = (four t true (q + 7)).2.1 := ⟨_, rfl⟩
                    obtain ⟨g3, d3⟩ : ∃ x, x = (four t true (q + 7)).2.2 := ⟨_, rfl⟩
                    rw [← d3] at h7 hgl
                    rw [← d1, ← d2, ← d3] at hE0
                    rw [← d1, ← d3] at hga
                    rw [← d1, ← d2] at hgd
                    rw [show (four t true (q + 5 + 1 + 1)).1 = g1 from d1.symm, show (four t true (q + 5 + 1 + 1)).2.1 = g2 from d2.symm]
                    refine sC [] rfl ?_; refine sC [] rfl ?_; refine sC [] rfl ?_
                    cases g1 with
                    | false =>
                      have hE := hE0 _ (if_pos rfl)
                      refine sA [] rfl ?_
                      exact ret1 (.inr rfl) rfl rfl ⟨by rw [hE], bad _ _ hE h7 ho7 hF7⟩
                    | true =>
                      have hg3 := hga rfl
                      rw [if_neg (by decide)] at hE0
                      have hE := hE0 _ rfl
                      rw [hg3] at h7 hgl
                      have hgd := hgd rfl
                      have h7 : Uq w7 p t (q + 11) v := h7
                      refine sA [] rfl ?_; refine ev_arith rfl rfl rfl rfl rfl (by simp only [lowK, hiK]; omega) ?_; refine sA [] rfl ?_
                      rw [show IntKind.i32.wrap ((f2 - 55296) * 2 ^ 10) = 1024 * (f2 - 55296) from (wrapK (by simp only [lowK, hiK]; omega)).trans (by omega)]
                      refine ev_arith rfl rfl rfl rfl rfl (by simp only [lowK, hiK]; omega) ?_; refine sA [] rfl ?_; refine ev_arith rfl rfl rfl rfl rfl (by simp only [lowK, hiK]; omega) ?_; refine ev_arith rfl rfl rfl rfl rfl (by simp only [lowK, hiK]; omega) ?_; refine sA [] rfl ?_
                      exact ev_out (65536 + 1024 * (f2 - 55296) + g2 - 56320, q + 11) ⟨hE, by simp only; omega, by simp only; omega, by simp only; omega, h7, ho7, hF7⟩ ⟨rfl, rfl, trivial⟩
                  · rw [decide_eq_false u2]
                    rw [if_neg u2] at h6
                    have hE := hE0 _ (if_pos u2)
                    refine sA [] rfl ?_
                    exact ret1 (.inr rfl) rfl rfl ⟨by rw [hE], bad _ _ hE h6 ho6 hF6⟩
                · rw [decide_eq_false u1]
                  rw [if_neg u1] at h5
                  have hE := hE0 _ (if_pos u1)
                  refine sA [] rfl ?_
                  exact ret1 (.inr rfl) rfl rfl ⟨by rw [hE], bad _ _ hE h5 ho5 hF5⟩
              · rw [if_neg fun z => s2 z.2] at hE0
                have hE := hE0 _ rfl
                refine sA [] rfl ?_
                exact ev_out (f2, q + 5) ⟨hE, by simp only; omega, by simp only; omega, by simp only; omega, h4, ho4, hF4⟩ ⟨rfl, rfl, trivial⟩
            · rw [show decide (55296 ≤ f2) = false from decide_eq_false s1]
              rw [if_neg fun z => s1 z.1] at hE0
              have hE := hE0 _ rfl
              refine sA [] rfl ?_
              exact ev_out (f2, q + 5) ⟨hE, by simp only; omega, by simp only; omega, by simp only; omega, h4, ho4, hF4⟩ ⟨rfl, rfl, trivial⟩
          · clear hE0 h4 ho4 hF4 bad
            rintro ⟨r, x⟩ w5 ⟨hE, hr0, hr1, hx, h5, ho5, hF5⟩
            simp only at hE hr0 hr1 hx h5
            refine sA [] rfl ?_; refine ev_loadB rfl rfl tabOk rfl rfl ‹_› (by rfl) ?_; refine sA [] rfl ?_
            refine ev_call rfl rfl rfl (apRune (p + 1) v out r _ hr0 hr1 (Ob.of ho5 (fun g hg => ho1.ge hg)) (by omega) h5.lt) (fun u w6 hr => ?_)
            obtain ⟨ho6, hf6⟩ := hr
            have h6 := h5.fr hf6 (fun e => hne _ e rfl)
            have hF6 := hF5.trans hf6 fun _ _ z => .inr z
            clear h5 ho5 hF5 hf6
            refine sA [] rfl ?_
            refine ev_store tabOk rfl rfl rfl rfl rfl ?_ h6 rfl (fun w7 h7 hf7 => ?_)
            · rcases ho6.2 with ⟨rfl, _⟩ | ⟨g, cap, cur, rfl, _⟩ <;> rfl
            have ho7 := ho6.own.fr hf7 (fun g hg z => by have := ho6.ge hg; have : g = p := z; omega)
            have hF7 := hF6.trans hf7 fun _ _ z => .inl z
            clear h6 hf7
            refine sA [] rfl ?_
            exact ret1 (.inr rfl) rfl rfl ⟨by rw [hE], by rw [hE]; exact ⟨u, h7, Ob.of ho7 (fun g hg => ho6.ge hg), hup hF7⟩⟩
  · have hE : escF t q = (false, [], q) := by unfold escF; rw [if_pos hlt]
    rw [decide_eq_false hlt]
    refine sA [] rfl ?_
    exact ret1 (.inr rfl) rfl rfl ⟨by rw [hE], by rw [hE, List.append_nil]; exact ⟨v, h1, ho1, hf1.mono fun _ _ z => z.elim⟩⟩
end Go.Wk.YtpnhfkmgnkdleaaDoor
namespace Go.Wk.YtpnhfkmgnkdleaaDoor
open Go Go.Wk Go.Proofs

theorem half_take {l : List UInt8} (hg : ¬ good l) {k : Nat} (h0 : 0 < k) (hk : k ≤ l.length) : halfP (l.take k) ↔ k ≤ fits l := by
  have gd : ∀ j, j < k → (l.take k).getD j 0 = l.getD j 0 := fun j hj => by rw [List.getD_eq_getElem?_getD, List.getElem?_take, if_pos hj, ← List.getD_eq_getElem?_getD]
  have hlen : (l.take k).length = k := by rw [List.length_take]; omega
  have gg : ∀ j, j < k → (goes (l.take k) j ↔ goes l j) := fun j hj => by
    unfold goes
    rw [hlen, gd 0 h0, gd j hj]
    constructor
    · rintro ⟨_, b, c⟩; exact ⟨by omega, b, c⟩
    · rintro ⟨_, b, c⟩; exact ⟨hj, b, c⟩
  have fs := fits_spec l
  have fl := fits_le l
  unfold halfP
  rw [hlen, gd 0 h0]
  constructor
  · rintro ⟨_, hf, hs⟩
    have fs2 := fits_spec (l.take k)
    rcases Nat.lt_or_ge (fits l) k with h | h
    · have h1 := fs2.1 (fits l) (by omega)
      exact absurd ((gg _ h).1 h1) fs.2
    · exact h
  · intro h
    refine ⟨h0, fits_of (fun j hj => (gg j hj).2 (fs.1 j (by omega))) (fun z => by have := z.1; omega), ?_⟩
    rcases Nat.lt_or_ge k (siz (l.getD 0 0)) with h1 | h1
    · exact h1
    · exact absurd ⟨by omega, by omega⟩ hg

set_option maxHeartbeats 2000000 in
theorem uqChar (p : Nat) (t : List UInt8) (q : Nat) (v : Value) (out : List UInt8) (w : World) (h : Uq w p t q v) (ho : Ob (p + 1) w v out) (ht : t.length ≤ 1000000000) (hq : q < t.length) (hl : out.length ≤ 4000000000) (hT : UT w) (hp1 : 1 < p) :
    CallsF Tryd.prog 86 [.pointer (some ⟨p, 0, none⟩)] w fun r w' => r = .bool (charF t q).1 ∧ UqS p t w v w' (charF t q).2.2 (out ++ (charF t q).2.1) := by
  have hne : ∀ g, v.ownBlock = some g → g ≠ p := fun g hg => by have := ho.ge hg; omega
  have hup : ∀ {w' : World}, Fr (fun b => b = p ∨ v.ownBlock = some b) w w' → Fr (fun b => p ≤ b) w w' := fun h => h.mono fun b _ z => z.elim (fun z => by omega) fun z => by have := ho.ge z; omega
  have hdl : (t.drop q).length = t.length - q := List.length_drop
  have hw1 := wid_pos (t.drop q)
  have hw2 := wid_le (l := t.drop q) (by omega)
  have hge := fun g (hg : v.ownBlock = some g) => ho.ge hg
  refine callsF Tryd.func86 rfl rfl (by decide) rfl ?_
  refine sA [] rfl ?_
  refine mixC_in (fun w' => Fr no w w') mixed (fun w1 hf1 => ?_)
  refine mA rfl (by kernel_rfl) (by kernel_rfl) ?_
  refine m_load 3 rfl rfl rfl (by kernel_rfl) (by kernel_rfl) rfl rfl tabOk rfl rfl (fun w' hw' => (h.fr0 hw').cell rfl) ?_
  refine m_load 7 rfl rfl rfl (by kernel_rfl) (by kernel_rfl) rfl rfl tabOk rfl rfl (fun w' hw' => (h.fr0 hw').cell rfl) ?_
  refine m_sliceStr (s := t) 8 rfl rfl rfl (by kernel_rfl) (by kernel_rfl) rfl rfl tabOk rfl rfl rfl rfl (by omega) (by omega) (by omega) ?_
  rw [show ((t.length : Nat) : Int).toNat = t.length from rfl, List.take_length, show ((q : Nat) : Int).toNat = q from rfl]
  refine mix1 rfl rfl ?_ hf1
  refine ev_call rfl rfl rfl (decRune (t.drop q) _ (by omega) (by omega) (hT.fr0 hf1)) (fun r w2 hr => ?_)
  obtain ⟨⟨r, rfl, hd1, hd2⟩, hf2⟩ := hr
  have hf2 := hf1.tr hf2
  refine mix_op ?_
  refine mA rfl (by kernel_rfl) (by kernel_rfl) ?_
  refine mix_out rfl ?_ hf2
  have h2 := h.fr0 hf2
  have ho2 := ho.own.fr0 hf2
  have hT2 := hT.fr0 hf2
  clear h ho hT hf1
  have hF2 : Fr (fun b => b = p ∨ v.ownBlock = some b) w w2 := hf2.mono fun _ _ z => z.elim
  refine sC [] rfl ?_; refine sD [] rfl ?_; refine sD [] rfl ?_
  refine ev_join1 (α := Unit) (fun _ => [(0, .pointer (some ⟨p, 0, none⟩)), (4, .int .i64 (wid (t.drop q))), (24, .bool (decide (good (t.drop q))))]) (fun _ w' => w' = w2) ?_ ?_
  · by_cases hr : r = 65533
    · rw [show decide (¬ r = 65533) = false from decide_eq_false fun z => z hr]
      by_cases hg : good (t.drop q)
      · have hw : wid (t.drop q) ≠ 1 := fun e => by have h1 := hd2 hg e; have := ((t.drop q).getD 0 0).toNat_lt; omega
        refine sA [] rfl ?_
        exact ev_out () rfl ⟨rfl, rfl, by rw [decide_eq_true hg, show decide ((1 : Int) < wid (t.drop q)) = true from decide_eq_true (by omega)]; rfl, trivial⟩
      · have hw : wid (t.drop q) = 1 := if_neg hg
        refine sA [] rfl ?_
        exact ev_out () rfl ⟨rfl, rfl, by rw [decide_eq_false hg, show decide ((1 : Int) < wid (t.drop q)) = false from decide_eq_false (by omega)]; rfl, trivial⟩
    · rw [show decide (¬ r = 65533) = true from decide_eq_true hr]
      have hg : good (t.drop q) := Decidable.not_not.1 fun z => hr (hd1 z)
      refine sA [] rfl ?_
      exact ev_out () rfl ⟨rfl, rfl, by rw [decide_eq_true hg]; rfl, trivial⟩
  rintro ⟨⟩ w3 rfl
  refine ev_condD rfl (fun hg => ?_) (fun hg => ?_)
  · have hE : charF t q = (true, (t.drop q).take (wid (t.drop q)), q + wid (t.drop q)) := if_pos hg
    refine sA [] rfl ?_
    refine mixC_in (fun w' => w'.cell? ⟨p, 0, none⟩ = some (.string (sOf t)) ∧ w'.cell? ⟨p, 1, none⟩ = some (.int .i64 q)) mixed (fun w4 hf4 => ?_)
    have h4 := h2.fr0 hf4
    have ho4 := ho2.fr0 hf4
    have hF4 := hF2.tr hf4
    have hC4 : w4.cell? ⟨p, 0, none⟩ = some (.string (sOf t)) ∧ w4.cell? ⟨p, 1, none⟩ = some (.int .i64 q) := ⟨h4.cell rfl, h4.cell rfl⟩
    refine mA rfl (by kernel_rfl) (by kernel_rfl) ?_
    refine m_load 8 rfl rfl rfl (by kernel_rfl) (by kernel_rfl) rfl rfl tabOk rfl rfl (fun w' hw' => hw'.1) ?_
    refine m_load 12 rfl rfl rfl (by kernel_rfl) (by kernel_rfl) rfl rfl tabOk rfl rfl (fun w' hw' => hw'.2) ?_
    refine m_load 16 rfl rfl rfl (by kernel_rfl) (by kernel_rfl) rfl rfl tabOk rfl rfl (fun w' hw' => hw'.2) ?_
    refine m_arith 18 rfl rfl rfl (by kernel_rfl) (by kernel_rfl) rfl rfl rfl rfl rfl (by simp only [lowK, hiK]; omega) ?_
    refine m_sliceStr (s := t) 19 rfl rfl rfl (by kernel_rfl) (by kernel_rfl) rfl rfl tabOk rfl rfl rfl rfl (by omega) (by omega) (by omega) ?_
    rw [show ((q : Int) + (wid (t.drop q) : Nat)).toNat = q + wid (t.drop q) by omega, show ((q : Nat) : Int).toNat = q from rfl, take_drop]
    obtain ⟨s, hs⟩ : ∃ s, s = (t.drop q).take (wid (t.drop q)) := ⟨_, rfl⟩
    rw [← hs]
    rw [← hs] at hE
    have hsl : s.length ≤ 1000000000 := by rw [hs, List.length_take]; omega
    have c4 : w4.cell? ⟨p, 0 + 2, none⟩ = some v := h4.cell rfl
    refine mix1 rfl rfl ?_ hC4
    refine ev_load rfl rfl tabOk rfl rfl c4 ?_
    refine mix_op ?_
    refine mix1 rfl rfl ?_ hC4
    refine ev_appendStr tabOk rfl rfl rfl rfl inf5 rfl rfl ho4 (by omega) (fun v5 w5 ho5 hf5 hn5 => ?_)
    have h5 := h4.fr hf5 (fun e => hne _ e rfl)
    have hn6 : ∀ g, v5.ownBlock = some g → p + 1 ≤ g := fun g hg => by
      have := h4.lt
      rcases NB.of hn5 g hg with z | z
      · exact hge _ z
      · omega
    have hF5 := hF4.trans hf5 fun _ _ z => .inr z
    have hC5 : w5.cell? ⟨p, 0, none⟩ = some (.string (sOf t)) ∧ w5.cell? ⟨p, 1, none⟩ = some (.int .i64 q) := ⟨h5.cell rfl, h5.cell rfl⟩
    refine mix_op ?_
    refine mA rfl (by kernel_rfl) (by kernel_rfl) ?_
    refine mix1 rfl rfl ?_ hC5
    refine ev_store tabOk rfl rfl rfl rfl rfl ?_ h5 rfl (fun w6 h6 hf6 => ?_)
    · rcases ho5.2 with ⟨rfl, _⟩ | ⟨g, cap, cur, rfl, _⟩ <;> rfl
    have ho6 := ho5.fr hf6 (fun g hg z => by have := hn6 g hg; have : g = p := z; omega)
    have hF6 := hF5.trans hf6 fun _ _ z => .inl z
    have hC6 : w6.cell? ⟨p, 0, none⟩ = some (.string (sOf t)) ∧ w6.cell? ⟨p, 1, none⟩ = some (.int .i64 q) := ⟨h6.cell rfl, h6.cell rfl⟩
    refine mix_op ?_
    refine mix_out rfl ?_ hC6
    clear h5 h4 ho5 hf5 hf6 h2 ho2 hn5 ho4 hC4 hC5 c4
    refine sA [] rfl ?_; refine ev_loadB rfl rfl tabOk rfl rfl ‹_› (by rfl) ?_; refine sA [] rfl ?_; refine ev_arith rfl rfl rfl rfl rfl (by simp only [lowK, hiK]; omega) ?_; refine sA [] rfl ?_
    refine ev_store tabOk rfl rfl rfl rfl rfl rfl h6 rfl (fun w7 h7 hf7 => ?_)
    have ho7 := ho6.fr hf7 (fun g hg z => by have := hn6 g hg; have : g = p := z; omega)
    have hF7 := hF6.trans hf7 fun _ _ z => .inl z
    clear h6 hf7
    refine sA [] rfl ?_
    have h7 : Blk w7 p [.string (sOf t), .int .i64 ((q : Int) + (wid (t.drop q) : Nat)), v5] 102 := h7
    rw [show (q : Int) + (wid (t.drop q) : Nat) = ((q + wid (t.drop q) : Nat) : Int) by omega] at h7
    exact ret1 (.inr rfl) rfl rfl ⟨by rw [hE], by rw [hE]; exact ⟨v5, h7, Ob.of (by rw [List.length_append, List.map_append]; exact ho7) hn6, hup hF7⟩⟩
  · have hE : charF t q = (false, [], q + fits (t.drop q)) := if_neg hg
    have hH := fun {k} h0 hk => half_take hg (k := k) h0 hk
    have hfl := (fits_le (t.drop q)).1
    clear hd1 hd2 hw1 hw2
    refine sA [] rfl ?_
    refine ev_loop (α := Nat) (fun y => [(0, .pointer (some ⟨p, 0, none⟩)), (5, .int .i64 y)])
      (fun y w' => 1 ≤ y ∧ y ≤ fits (t.drop q) + 1 ∧ Uq w' p t q v ∧ Own w' 5 1 v out.length (out.map bv) ∧ UT w' ∧ Fr (fun b => b = p ∨ v.ownBlock = some b) w w') (fun y => t.length + 5 - y) 1 ⟨rfl, rfl, trivial⟩ ⟨Nat.le_refl _, by omega, h2, ho2, hT2, hF2⟩ ?_
    clear h2 ho2 hT2 hF2
    rintro k w4 ⟨hk0, hk1, h4, ho4, hT4, hF4⟩
    refine sA [] rfl ?_
    refine ev_draw mixed (by kernel_rfl) ?_
    refine qA rfl ?_; refine q_loadB rfl rfl tabOk rfl rfl ‹_› (by rfl) ?_; refine qA rfl ?_; refine q_arith rfl rfl rfl rfl rfl (by simp only [lowK, hiK]; omega) ?_; refine qA rfl ?_; refine q_loadB rfl rfl tabOk rfl rfl ‹_› (by rfl) ?_; refine qA rfl ?_
    refine q_end fun w5 hf5 => ?_
    have h5 := h4.fr0 hf5
    have ho5 := ho4.fr0 hf5
    have hT5 := hT4.fr0 hf5
    have hF5 := hF4.tr hf5
    clear h4 ho4 hT4 hF4 hf5
    refine ev_condD rfl (fun hc => ?_) (fun hc => ?_)
    · have hk2 : k ≤ (t.drop q).length := by omega
      have hH := hH hk0 hk2
      refine sA [] rfl ?_
      refine ev_draw mixed (by kernel_rfl) ?_
      refine qA rfl ?_; refine q_loadB rfl rfl tabOk rfl rfl ‹_› (by rfl) ?_; refine qA rfl ?_; refine q_loadB rfl rfl tabOk rfl rfl ‹_› (by rfl) ?_; refine qA rfl ?_; refine q_loadB rfl rfl tabOk rfl rfl ‹_› (by rfl) ?_; refine qA rfl ?_; refine q_arith rfl rfl rfl rfl rfl (by simp only [lowK, hiK]; omega) ?_
      refine q_sliceStr (s := t) rfl rfl tabOk rfl rfl rfl rfl (by omega) (by omega) (by omega) ?_
      rw [show ((q : Int) + (k : Nat)).toNat = q + k by omega, show ((q : Nat) : Int).toNat = q from rfl, take_drop]
      refine q_call rfl rfl rfl (fun w' hw' => (fullRune ((t.drop q).take k) w' (by rw [List.length_take]; omega) (by rw [List.length_take]; omega) (hT5.fr0 hw')).mono fun u w'' z => ⟨z.1, hw'.tr z.2⟩) ?_
      refine q_end fun w6 hf6 => ?_
      have h6 := h5.fr0 hf6
      have ho6 := ho5.fr0 hf6
      have hT6 := hT5.fr0 hf6
      have hF6 := hF5.tr hf6
      clear h5 ho5 hT5 hF5 hf6
      refine ev_condND rfl (fun hd => ?_) (fun hd => ?_)
      · have hk3 : k - 1 = fits (t.drop q) := by
          have : ¬ k ≤ fits (t.drop q) := fun z => hd (hH.2 z)
          omega
        refine sA [] rfl ?_; refine ev_loadB rfl rfl tabOk rfl rfl ‹_› (by rfl) ?_; refine sA [] rfl ?_; refine ev_arith rfl rfl rfl rfl rfl (by simp only [lowK, hiK]; omega) ?_; refine ev_arith rfl rfl rfl rfl rfl (by simp only [lowK, hiK]; omega) ?_; refine sA [] rfl ?_
        refine ev_store tabOk rfl rfl rfl rfl rfl rfl h6 rfl (fun w7 h7 hf7 => ?_)
        have ho7 := ho6.fr hf7 (fun g hg z => hne g hg z)
        have hF7 := hF6.trans hf7 fun _ _ z => .inl z
        clear h6 hf7
        refine sA [] rfl ?_
        have h7 : Blk w7 p [.string (sOf t), .int .i64 ((q : Int) + ((k : Int) - 1)), v] 102 := h7
        rw [show (q : Int) + ((k : Int) - 1) = ((q + fits (t.drop q) : Nat) : Int) by omega] at h7
        exact ret1 (.inr rfl) rfl rfl ⟨by rw [hE], by rw [hE, List.append_nil]; exact ⟨v, h7, Ob.of ho7 hge, hup hF7⟩⟩
      · have hk3 := hH.1 hd
        refine sA [] rfl ?_; refine ev_arith rfl rfl rfl rfl rfl (by simp only [lowK, hiK]; omega) ?_; refine sA [] rfl ?_
        exact ev_next (k + 1) (by omega) ⟨by omega, by omega, h6, ho6, hT6, hF6⟩ ⟨rfl, rfl, trivial⟩
    · have hk3 : t.length = q + fits (t.drop q) := by omega
      refine sA [] rfl ?_; refine ev_loadB rfl rfl tabOk rfl rfl ‹_› (by rfl) ?_; refine sA [] rfl ?_
      refine ev_store tabOk rfl rfl rfl rfl rfl rfl h5 rfl (fun w7 h7 hf7 => ?_)
      have ho7 := ho5.fr hf7 (fun g hg z => hne g hg z)
      have hF7 := hF5.trans hf7 fun _ _ z => .inl z
      clear h5 hf7
      refine sA [] rfl ?_
      have h7 : Blk w7 p [.string (sOf t), .int .i64 (t.length : Nat), v] 102 := h7
      rw [hk3] at h7
      exact ret1 (.inr rfl) rfl rfl ⟨by rw [hE], by rw [hE, List.append_nil]; exact ⟨v, h7, Ob.of ho7 hge, hup hF7⟩⟩
end Go.Wk.YtpnhfkmgnkdleaaDoor
namespace Go.Wk.YtpnhfkmgnkdleaaDoor
open Go Go.Wk Go.Proofs

set_option maxHeartbeats 2000000 in
theorem uqRead (p : Nat) (t : List UInt8) (v : Value) (w : World) (h : Uq w p t 0 v) (ho : Ob (p + 1) w v []) (ht : t.length ≤ 500000000) (hT : UT w) (hp1 : 1 < p) :
    CallsF Tryd.prog 62 [.pointer (some ⟨p, 0, none⟩)] w fun r w' => r = .bool (unqF t).1 ∧ ∃ v', Uq w' p t (unqF t).2.2 v' ∧ ((unqF t).1 = true → Ob (p + 1) w' v' (unqF t).2.1) ∧ Fr (fun b => p ≤ b) w w' := by
  have hne : ∀ g, v.ownBlock = some g → g ≠ p := fun g hg => by have := ho.ge hg; omega
  have hge := fun g (hg : v.ownBlock = some g) => ho.ge hg
  refine callsF Tryd.func62 rfl rfl (by decide) rfl ?_
  refine sA [] rfl ?_
  refine ev_call rfl rfl rfl (uqIs p t 0 v 34 _ h (Nat.zero_le _) (by omega)) (fun r w1 hr => ?_)
  obtain ⟨rfl, h1, hf1⟩ := hr
  have ho1 := ho.own.fr hf1 (fun g hg z => hne g hg z)
  have hF1 : Fr (fun b => p ≤ b) w w1 := hf1.mono fun b _ z => by have : b = p := z; omega
  have hT1 := hT.fr hF1 (by omega) (by omega)
  clear h ho hf1 hT
  by_cases u1 : 0 < t.length ∧ t.getD 0 0 = 34
  · have hE : unqF t = readF (t.length + 1) t 1 [] := if_pos u1
    rw [decide_eq_true u1]
    rw [if_pos u1] at h1
    refine sA [] rfl ?_
    refine ev_loop (α := Nat × List UInt8 × Value) (fun y => [(0, .pointer (some ⟨p, 0, none⟩))])
      (fun y w' => y.1 ≤ t.length ∧ y.2.1.length ≤ 4 * y.1 ∧ (∃ f, t.length < f + y.1 ∧ unqF t = readF f t y.1 y.2.1) ∧ Uq w' p t y.1 y.2.2 ∧ Ob (p + 1) w' y.2.2 y.2.1 ∧ UT w' ∧ Fr (fun b => p ≤ b) w w') (fun y => t.length - y.1) (1, [], v) ⟨rfl, trivial⟩ ⟨u1.1, Nat.zero_le _, ⟨_, by simp only; omega, hE⟩, h1, Ob.of ho1 hge, hT1, hF1⟩ ?_
    clear hE h1 ho1 hT1 hF1 hne hge
    rintro ⟨q, out, v⟩ w2 ⟨hq, hol, ⟨f, hf, hE⟩, h2, ho2, hT2, hF2⟩
    simp only at hq hol hf hE h2 ho2
    obtain ⟨f, rfl⟩ : ∃ g, f = g + 1 := ⟨f - 1, by omega⟩
    refine sA [] rfl ?_
    refine ev_call rfl rfl rfl (uqNext p t q v _ h2 hq (by omega)) (fun r w3 hr => ?_)
    obtain ⟨rfl, hf3⟩ := hr
    have h3 := h2.fr0 hf3
    have ho3 : Ob (p + 1) w3 v out := Ob.of (ho2.own.fr0 hf3) (fun g hg => ho2.ge hg)
    have hT3 := hT2.fr0 hf3
    have hF3 := hF2.tr hf3
    clear h2 ho2 hT2 hF2 hf3
    have bad : ∀ (x : Nat) v' w', unqF t = (false, [], x) → Uq w' p t x v' → Fr (fun b => p ≤ b) w w' → ∃ v', Uq w' p t (unqF t).2.2 v' ∧ ((unqF t).1 = true → Ob (p + 1) w' v' (unqF t).2.1) ∧ Fr (fun b => p ≤ b) w w' := fun x v' w' e hx hF => by
      rw [e]; exact ⟨v', hx, (fun z => Bool.noConfusion z), hF⟩
    unfold readF at hE
    by_cases hlt : q < t.length
    · rw [if_neg fun z => z hlt] at hE
      rw [decide_eq_true hlt]
      obtain ⟨c, hc⟩ : ∃ c, c = t.getD q 0 := ⟨_, rfl⟩
      rw [← hc] at hE ⊢
      have hcl := c.toNat_lt
      refine sB [] rfl ?_; refine sD [] rfl ?_
      refine ev_condD rfl (fun h32 => ?_) (fun h32 => ?_)
      · have hE := hE.trans (if_pos (show c.toNat < 32 by omega))
        refine sA [] rfl ?_
        exact ret1 (.inr rfl) rfl rfl ⟨by rw [hE], bad _ _ _ hE h3 hF3⟩
      · rw [if_neg (show ¬ c.toNat < 32 by omega)] at hE
        refine sC [] rfl ?_; refine sD [] rfl ?_; refine sD [] rfl ?_
        refine ev_condD rfl (fun h34 => ?_) (fun h34 => ?_)
        · have h34 : c = 34 := UInt8.toNat_inj.1 (by show c.toNat = 34; omega)
          rw [if_pos h34] at hE
          refine sA [] rfl ?_; refine ev_loadB rfl rfl tabOk rfl rfl ‹_› (by rfl) ?_; refine ev_arith rfl rfl rfl rfl rfl (by simp only [lowK, hiK]; omega) ?_; refine sA [] rfl ?_
          refine ev_store tabOk rfl rfl rfl rfl rfl rfl h3 rfl (fun w4 h4 hf4 => ?_)
          have ho4 : Ob (p + 1) w4 v out := Ob.of (ho3.own.fr hf4 (fun g hg z => by have := ho3.ge hg; have : g = p := z; omega)) (fun g hg => ho3.ge hg)
          have hF4 := hF3.trans hf4 fun b _ z => (by have : b = p := z; omega)
          have h4 : Uq w4 p t (q + 1) v := h4
          clear h3 hf4
          refine sA [] rfl ?_
          refine ev_draw mixed (by kernel_rfl) ?_
          refine qA rfl ?_; refine q_loadB rfl rfl tabOk rfl rfl ‹_› (by rfl) ?_; refine qA rfl ?_; refine q_loadB rfl rfl tabOk rfl rfl ‹_› (by rfl) ?_; refine qA rfl ?_
          refine q_end fun w5 hf5 => ?_
          have h5 := h4.fr0 hf5
          have hF5 := hF4.tr hf5
          have ho5 : Ob (p + 1) w5 v out := Ob.of (ho4.own.fr0 hf5) (fun g hg => ho4.ge hg)
          clear h4
          refine sA [] rfl ?_
          by_cases he : q + 1 < t.length
          · rw [if_pos he] at hE
            exact ret1 (.inr rfl) rfl rfl ⟨by rw [hE]; exact congrArg Value.bool (decide_eq_false (by omega)), bad _ _ _ hE h5 hF5⟩
          · rw [if_neg he] at hE
            exact ret1 (.inr rfl) rfl rfl ⟨by rw [hE]; exact congrArg Value.bool (decide_eq_true (by omega)), by rw [hE]; exact ⟨v, h5, fun _ => ho5, hF5⟩⟩
        · have h34 : ¬ c = 34 := fun e => h34 (by rw [e]; rfl)
          rw [if_neg h34] at hE
          have hS : oneF t q = if c = 92 then escF t (q + 1) else charF t q := by unfold oneF; rw [← hc]
          have hg1 := oneF_good (t := t) hlt
          refine sC [] rfl ?_; refine sD [] rfl ?_; refine sD [] rfl ?_
          refine ev_cut (α := Value) (fun y => [(0, .pointer (some ⟨p, 0, none⟩)), (4, .bool (oneF t q).1)]) (fun y w' => Uq w' p t (oneF t q).2.2 y ∧ Ob (p + 1) w' y (out ++ (oneF t q).2.1) ∧ UT w' ∧ Fr (fun b => p ≤ b) w w') ?_ ?_
          · refine ev_condD rfl (fun h92 => ?_) (fun h92 => ?_)
            · have h92 : c = 92 := UInt8.toNat_inj.1 (by show c.toNat = 92; omega)
              rw [if_pos h92] at hS
              refine sA [] rfl ?_; refine ev_loadB rfl rfl tabOk rfl rfl ‹_› (by rfl) ?_; refine ev_arith rfl rfl rfl rfl rfl (by simp only [lowK, hiK]; omega) ?_; refine sA [] rfl ?_
              refine ev_store tabOk rfl rfl rfl rfl rfl rfl h3 rfl (fun w4 h4 hf4 => ?_)
              have ho4 : Ob (p + 1) w4 v out := Ob.of (ho3.own.fr hf4 (fun g hg z => by have := ho3.ge hg; have : g = p := z; omega)) (fun g hg => ho3.ge hg)
              have hF4 := hF3.trans hf4 fun b _ z => (by have : b = p := z; omega)
              have hT4 := hT3.fr hf4 (by omega) (by omega)
              have h4 : Uq w4 p t (q + 1) v := h4
              clear h3 hf4
              refine sA [] rfl ?_
              refine ev_call rfl rfl rfl (uqEscape p t (q + 1) v out _ h4 ho4 (by omega) (by omega) (by omega)) (fun r w5 hr => ?_)
              obtain ⟨rfl, v5, h5, ho5, hf5⟩ := hr
              have hF5 := hF4.trans hf5 fun _ _ z => z
              have hT5 := hT4.fr hf5 (by omega) (by omega)
              rw [← hS] at h5 ho5 ⊢
              refine sA [] rfl ?_
              exact ev_out v5 ⟨h5, ho5, hT5, hF5⟩ ⟨rfl, rfl, trivial⟩
            · have h92 : ¬ c = 92 := fun e => h92 (by rw [e]; rfl)
              rw [if_neg h92] at hS
              refine sA [] rfl ?_
              refine ev_call rfl rfl rfl (uqChar p t q v out _ h3 ho3 (by omega) hlt (by omega) hT3 hp1) (fun r w5 hr => ?_)
              obtain ⟨rfl, v5, h5, ho5, hf5⟩ := hr
              have hF5 := hF3.trans hf5 fun _ _ z => z
              have hT5 := hT3.fr hf5 (by omega) (by omega)
              rw [← hS] at h5 ho5 ⊢
              refine sA [] rfl ?_
              exact ev_out v5 ⟨h5, ho5, hT5, hF5⟩ ⟨rfl, rfl, trivial⟩
          · clear h3 ho3 hT3 hF3
            rintro v5 w5 ⟨h5, ho5, hT5, hF5⟩
            refine sC [] rfl ?_; refine sD [] rfl ?_; refine sD [] rfl ?_
            by_cases hg : (oneF t q).1 = true
            · rw [if_pos hg] at hE
              obtain ⟨hg2, hg3, hg4⟩ := hg1 hg
              rw [hg]
              refine sA [] rfl ?_
              exact ev_next ((oneF t q).2.2, out ++ (oneF t q).2.1, v5) (by simp only; omega) ⟨hg3, by simp only [List.length_append]; omega, ⟨f, by simp only; omega, hE⟩, h5, ho5, hT5, hF5⟩ ⟨rfl, trivial⟩
            · rw [if_neg hg] at hE
              rw [show (oneF t q).1 = false by simpa using hg]
              refine sA [] rfl ?_
              exact ret1 (.inr rfl) rfl rfl ⟨by rw [hE], bad _ _ _ hE h5 hF5⟩
    · have hE := hE.trans (if_pos hlt)
      rw [decide_eq_false hlt]
      refine sA [] rfl ?_
      exact ret1 (.inr rfl) rfl rfl ⟨by rw [hE], bad _ _ _ hE h3 hF3⟩
  · have hE : unqF t = (false, [], 0) := if_neg u1
    rw [decide_eq_false u1]
    rw [if_neg u1] at h1
    refine sA [] rfl ?_
    exact ret1 (.inr rfl) rfl rfl ⟨by rw [hE], by rw [hE]; exact ⟨v, h1, (fun z => Bool.noConfusion z), hF1⟩⟩
/-- what Unquote answers: the text, the place, the error -/
def unqR (t : List UInt8) : List Value := if (unqF t).1 = true then [.string (sOf (unqF t).2.1), .int .i64 0, .int .i64 0] else [.string (sOf []), .int .i64 (unqF t).2.2, .int .i64 142]
theorem wUnquote (t : List UInt8) (w : World) (ht : t.length ≤ 500000000) (hT : UT w) :
    CallsF Tryd.prog 33 [.string (sOf t)] w fun r w' => r = .tuple ⟨unqR t⟩ ∧ Fr no w w' := by
  have h01 := hT.lt
  refine callsF Tryd.func33 rfl rfl (by decide) rfl ?_
  refine sA [] rfl ?_
  refine ev_build rfl rfl (v := .agg #[.string (sOf t), .int .i64 0, .slice none 0 0]) rfl (fun w => by kernel_rfl) ?_
  refine ev_box rfl rfl rfl (fun b w1 hb hB1 hf1 => ?_)
  have hT1 := hT.fr0 hf1
  have hB1 : Uq w1 b t 0 (.slice none 0 0) := hB1
  refine sA [] rfl ?_
  refine ev_call rfl rfl rfl (uqRead b t _ _ hB1 (Ob.of (Own.nil _ _ _) (fun g hg => by cases hg)) ht hT1 (by omega)) (fun r w2 hr => ?_)
  obtain ⟨rfl, v2, h2, ho2, hf2⟩ := hr
  have hF2 : Fr no w w2 := hf1.trans hf2 fun c hc z => (by have : b ≤ c := z; omega)
  clear hB1
  by_cases hg : (unqF t).1 = true
  · have hE : unqR t = [.string (sOf (unqF t).2.1), .int .i64 0, .int .i64 0] := if_pos hg
    have ho := (ho2 hg).own
    rw [hg]
    have hv2 : ∃ A cap, v2 = .slice A (unqF t).2.1.length cap ∧ Cs w2 A ((unqF t).2.1.map bv) := by
      rcases ho.2 with ⟨rfl, h0⟩ | ⟨g, cap, cur, rfl, _⟩
      · have h0 : (unqF t).2.1 = [] := List.eq_nil_of_length_eq_zero (by simpa using h0)
        rw [h0]; exact ⟨none, 0, rfl, Cs.nil _ _⟩
      · refine ⟨_, _, rfl, fun j u hj => ⟨g, 0, rfl, ?_⟩⟩
        have := ho.cells (g := g) rfl j u hj
        rwa [Addr.add_lit] at this
    obtain ⟨A, cap, rfl, hc⟩ := hv2
    refine sA [] rfl ?_; refine ev_loadB rfl rfl tabOk rfl rfl ‹_› (by rfl) ?_
    refine ev_strOf rfl rfl tabOk rfl rfl rfl rfl hc ?_
    refine sA [] rfl ?_
    exact ret3 (.inr rfl) rfl rfl rfl rfl ⟨by rw [hE], hF2⟩
  · have hE : unqR t = [.string (sOf []), .int .i64 (unqF t).2.2, .int .i64 142] := if_neg hg
    rw [show (unqF t).1 = false by simpa using hg]
    refine sA [] rfl ?_
    refine ev_draw mixed (by kernel_rfl) ?_
    refine qA rfl ?_; refine q_loadB rfl rfl tabOk rfl rfl ‹_› (by rfl) ?_; refine qA rfl ?_
    refine q_end fun w3 hf3 => ?_
    refine sA [] rfl ?_
    exact ret3 (.inr rfl) rfl rfl rfl rfl ⟨by rw [hE], hF2.tr hf3⟩
end Go.Wk.YtpnhfkmgnkdleaaDoor
