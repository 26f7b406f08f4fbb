/-
  The walks of the wire package: all frames of a text, lists of texts, digits; the document's.
-/
import Derived.Test.YtihjpjpellagiaaWireF4
import Derived.Test.YtihjpjpellagiaaMevs
set_option linter.unusedVariables false
namespace Go.Wk.Ytihjpjpellagiaa
open Go Go.Wk Go.Proofs

abbrev sv (t : List UInt8) : Value := .string (sOf t)
theorem frR_adv (s : List UInt8) (a : Nat) (most : Int) (h : (frR s a most).1 = 0) : a + 4 ≤ (frR s a most).2.2 := by
  have hpos : ∀ r i n, (lg s a r i n).1 = 0 → a ≤ (lg s a r i n).2.2 := by
    intro r
    induction r with
    | zero => intro i n h; cases h
    | succ r ih =>
      intro i n h
      unfold lg at h ⊢
      split at h
      · cases h
      · rename_i h1
        rw [if_neg h1]
        split at h
        · cases h
        · rename_i h2
          rw [if_neg h2]
          split at h
          · rename_i h3
            rw [if_pos h3]
            split at h
            · cases h
            · rename_i h4
              rw [if_neg h4]; show a ≤ a + i + 1; omega
          · rename_i h3
            rw [if_neg h3]; exact ih _ _ h
  unfold frR at h ⊢
  split at h
  · cases h
  rename_i h1
  rw [if_neg h1]
  split at h
  · rename_i h2; exact absurd h h2
  rename_i h2
  rw [if_neg h2]
  have hp := hpos 9 0 0 (by omega)
  split at h
  · cases h
  rename_i h3
  rw [if_neg h3]
  split at h
  · cases h
  rename_i h4
  rw [if_neg h4]
  split at h
  · cases h
  rename_i h5
  rw [if_neg h5]
  show a + 4 ≤ (lg s a 9 0 0).2.2 + (lg s a 9 0 0).2.1 + 4
  omega
/-- the most that is let in has no part, from the text's length on -/
theorem frR_most (s : List UInt8) (a : Nat) (m : Int) (ha : a ≤ s.length) (hm : (s.length : Int) ≤ m) (hm2 : m ≤ 9223372036854775807) : (frR s a m).2 = (frR s a s.length).2 ∧ ((frR s a m).1 = 0 ↔ (frR s a s.length).1 = 0) := by
  unfold frR
  have m0 : ¬ m < 0 := by omega
  have l0 : ¬ (s.length : Int) < 0 := by omega
  simp only [if_neg m0, if_neg l0]
  by_cases h1 : (lg s a 9 0 0).1 ≠ 0
  · simp only [if_pos h1]; first | exact ⟨rfl, Iff.rfl⟩ | simp
  simp only [if_neg h1]
  by_cases h2 : m < ((lg s a 9 0 0).2.1 : Int)
  · have h3 : (s.length : Int) < ((lg s a 9 0 0).2.1 : Int) := by omega
    simp only [if_pos h2, if_pos h3]; first | exact ⟨rfl, Iff.rfl⟩ | simp
  simp only [if_neg h2]
  by_cases h3 : (s.length : Int) < ((lg s a 9 0 0).2.1 : Int)
  · have h4 : s.length < (lg s a 9 0 0).2.2 + (lg s a 9 0 0).2.1 + 4 := by omega
    simp only [if_pos h3, if_pos h4]
    simp
  · simp only [if_neg h3]; first | exact ⟨rfl, Iff.rfl⟩ | simp

/-- all frames from a place on, and where they end -/
def frs (s : List UInt8) : Nat → Nat → List (List UInt8) × Nat
  | 0, a => ([], a)
  | f + 1, a => if (frR s a s.length).1 = 0 then ((frR s a s.length).2.1 :: (frs s f (frR s a s.length).2.2).1, (frs s f (frR s a s.length).2.2).2) else ([], a)
abbrev frsT (s : List UInt8) : List (List UInt8) × Nat := frs s (s.length + 1) 0

theorem frsC (s : List UInt8) (w : World) (hs : s.length ≤ 1000000000000) :
    CallsF Try.prog 39 [.string (sOf s)] w fun v w' => ∃ x, v = .tuple #[x, .int .i64 (frsT s).2] ∧ Own w' 9 1 x (frsT s).1.length ((frsT s).1.map sv) ∧ Fr no w w' := by
  obtain ⟨T, hT⟩ : ∃ T, T = frsT s := ⟨_, rfl⟩
  rw [← hT]
  refine callsF Try.func39 rfl rfl (by decide) rfl ?_
  repeat (first
    | refine stepF_ok tabOk [] (m := 400) rfl ?_
    | refine stepF_ok tabOk [] (m := 16) rfl ?_
    | refine stepF_ok tabOk [] (m := 3) rfl ?_
    | refine stepF_ok tabOk [] (m := 0) rfl ?_
    | refine ev_load rfl rfl tabOk rfl rfl (by assumption) ?_
    | refine ev_loadB rfl rfl tabOk rfl rfl (by assumption) (by rfl) ?_
    | refine ev_loadAggB rfl rfl tabOk rfl rfl (by assumption) (by rfl) ?_
    | refine ev_arith rfl rfl rfl rfl rfl (by simp only [lowK, hiK]; omega) ?_
    | refine ev_rem rfl rfl rfl rfl (by omega) (by omega) ?_
    | refine ev_quo rfl rfl rfl rfl (by omega) (by omega) (by simp only [hiK]; omega) ?_
    | refine ev_index rfl rfl tabOk rfl rfl rfl (by omega) (by omega) ?_
    | refine ev_indexA rfl rfl tabOk rfl rfl rfl (by omega) (by omega) rfl ?_
    | refine ev_convB rfl rfl tabOk rfl rfl rfl rfl ?_
    | refine ev_conv rfl rfl tabOk rfl rfl rfl (by simp only [lowK, hiK]; omega) ?_)
  refine ev_call rfl rfl rfl (newReader s _) (fun r w1 hr => ?_)
  obtain ⟨p, rfl, hp, hR1, hf1⟩ := hr
  repeat (first
    | refine stepF_ok tabOk [] (m := 400) rfl ?_
    | refine stepF_ok tabOk [] (m := 16) rfl ?_
    | refine stepF_ok tabOk [] (m := 3) rfl ?_
    | refine stepF_ok tabOk [] (m := 0) rfl ?_
    | refine ev_load rfl rfl tabOk rfl rfl (by assumption) ?_
    | refine ev_loadB rfl rfl tabOk rfl rfl (by assumption) (by rfl) ?_
    | refine ev_loadAggB rfl rfl tabOk rfl rfl (by assumption) (by rfl) ?_
    | refine ev_arith rfl rfl rfl rfl rfl (by simp only [lowK, hiK]; omega) ?_
    | refine ev_rem rfl rfl rfl rfl (by omega) (by omega) ?_
    | refine ev_quo rfl rfl rfl rfl (by omega) (by omega) (by simp only [hiK]; omega) ?_
    | refine ev_index rfl rfl tabOk rfl rfl rfl (by omega) (by omega) ?_
    | refine ev_indexA rfl rfl tabOk rfl rfl rfl (by omega) (by omega) rfl ?_
    | refine ev_convB rfl rfl tabOk rfl rfl rfl rfl ?_
    | refine ev_conv rfl rfl tabOk rfl rfl rfl (by simp only [lowK, hiK]; omega) ?_)
  refine ev_loop (α := Nat × Nat × Value × List (List UInt8)) (fun y => [(4, .pointer (some ⟨p, 0, none⟩)), (5, y.2.2.1)])
    (fun y w' => s.length < y.2.1 + y.1 ∧ y.2.1 ≤ s.length ∧ y.2.2.2 ++ (frs s y.1 y.2.1).1 = T.1 ∧ (frs s y.1 y.2.1).2 = T.2 ∧ y.2.2.2.length ≤ y.2.1 ∧ Rd w' p s y.2.1 ∧ Own w' 9 1 y.2.2.1 y.2.2.2.length (y.2.2.2.map sv) ∧ (∀ g, y.2.2.1.ownBlock = some g → w.heap.size ≤ g ∧ g ≠ p) ∧ Fr no w w')
    (fun y => y.1) (s.length + 1, 0, .slice none 0 0, []) ⟨rfl, rfl, trivial⟩ ⟨by simp only; omega, Nat.zero_le _, by rw [hT]; rfl, by rw [hT], Nat.zero_le _, hR1, Own.nil _ _ _, fun g hg => (by cases hg), hf1⟩ ?_
  clear hR1 hf1 hT
  rintro ⟨f, a, v, out⟩ w2 ⟨hfa, ha, ht1, ht2, hol, hR, ho, hg, hf⟩
  simp only at hfa ha ht1 ht2 hol hR ho hg
  obtain ⟨f, rfl⟩ : ∃ q, f = q + 1 := ⟨f - 1, by omega⟩
  unfold frs at ht1 ht2
  have hmost := frR_most s a 9223372036854775807 ha (by omega) (by omega)
  have hok := frR_ok s a s.length ha
  have hadv := frR_adv s a s.length
  repeat (first
    | refine stepF_ok tabOk [] (m := 400) rfl ?_
    | refine stepF_ok tabOk [] (m := 16) rfl ?_
    | refine stepF_ok tabOk [] (m := 3) rfl ?_
    | refine stepF_ok tabOk [] (m := 0) rfl ?_
    | refine ev_load rfl rfl tabOk rfl rfl (by assumption) ?_
    | refine ev_loadB rfl rfl tabOk rfl rfl (by assumption) (by rfl) ?_
    | refine ev_loadAggB rfl rfl tabOk rfl rfl (by assumption) (by rfl) ?_
    | refine ev_arith rfl rfl rfl rfl rfl (by simp only [lowK, hiK]; omega) ?_
    | refine ev_rem rfl rfl rfl rfl (by omega) (by omega) ?_
    | refine ev_quo rfl rfl rfl rfl (by omega) (by omega) (by simp only [hiK]; omega) ?_
    | refine ev_index rfl rfl tabOk rfl rfl rfl (by omega) (by omega) ?_
    | refine ev_indexA rfl rfl tabOk rfl rfl rfl (by omega) (by omega) rfl ?_
    | refine ev_convB rfl rfl tabOk rfl rfl rfl rfl ?_
    | refine ev_conv rfl rfl tabOk rfl rfl rfl (by simp only [lowK, hiK]; omega) ?_)
  refine ev_call rfl rfl rfl (rdFrame p s a 9223372036854775807 _ hR ha (by omega)) (fun r w3 hr => ?_)
  obtain ⟨rfl, hR3, hf3⟩ := hr
  rw [hmost.1]
  rw [hmost.1] at hR3
  obtain ⟨E, hEd⟩ : ∃ E, E = (frR s a 9223372036854775807).1 := ⟨_, rfl⟩
  rw [← hEd]
  rw [← hEd] at hmost
  have hE := hmost.2
  clear hmost hEd
  generalize frR s a s.length = G at *
  have hpw : p < w2.heap.size := hR.lt
  have ho3 := ho.fr hf3 (fun g hg' e => (hg g hg').2 e)
  have hf03 : Fr no w w3 := hf.trans hf3 (fun u hu z => by have : u = p := z; omega)
  clear hR ho
  repeat (first
    | refine stepF_ok tabOk [] (m := 400) rfl ?_
    | refine stepF_ok tabOk [] (m := 16) rfl ?_
    | refine stepF_ok tabOk [] (m := 3) rfl ?_
    | refine stepF_ok tabOk [] (m := 0) rfl ?_
    | refine ev_load rfl rfl tabOk rfl rfl (by assumption) ?_
    | refine ev_loadB rfl rfl tabOk rfl rfl (by assumption) (by rfl) ?_
    | refine ev_loadAggB rfl rfl tabOk rfl rfl (by assumption) (by rfl) ?_
    | refine ev_arith rfl rfl rfl rfl rfl (by simp only [lowK, hiK]; omega) ?_
    | refine ev_rem rfl rfl rfl rfl (by omega) (by omega) ?_
    | refine ev_quo rfl rfl rfl rfl (by omega) (by omega) (by simp only [hiK]; omega) ?_
    | refine ev_index rfl rfl tabOk rfl rfl rfl (by omega) (by omega) ?_
    | refine ev_indexA rfl rfl tabOk rfl rfl rfl (by omega) (by omega) rfl ?_
    | refine ev_convB rfl rfl tabOk rfl rfl rfl rfl ?_
    | refine ev_conv rfl rfl tabOk rfl rfl rfl (by simp only [lowK, hiK]; omega) ?_)
  refine ev_condD rfl (fun h0 => ?_) (fun h0 => ?_)
  · have h2 : ¬ G.1 = 0 := fun h => h0 (hE.2 h)
    rw [if_neg h2] at ht1 ht2
    have hb := congrArg Prod.snd (hok.2 h2)
    simp only at hb
    rw [hb] at hR3
    simp only [List.append_nil] at ht1
    repeat (first
      | refine stepF_ok tabOk [] (m := 400) rfl ?_
      | refine stepF_ok tabOk [] (m := 16) rfl ?_
      | refine stepF_ok tabOk [] (m := 3) rfl ?_
      | refine stepF_ok tabOk [] (m := 0) rfl ?_
      | refine ev_load rfl rfl tabOk rfl rfl (by assumption) ?_
      | refine ev_loadB rfl rfl tabOk rfl rfl (by assumption) (by rfl) ?_
      | refine ev_loadAggB rfl rfl tabOk rfl rfl (by assumption) (by rfl) ?_
      | refine ev_arith rfl rfl rfl rfl rfl (by simp only [lowK, hiK]; omega) ?_
      | refine ev_rem rfl rfl rfl rfl (by omega) (by omega) ?_
      | refine ev_quo rfl rfl rfl rfl (by omega) (by omega) (by simp only [hiK]; omega) ?_
      | refine ev_index rfl rfl tabOk rfl rfl rfl (by omega) (by omega) ?_
      | refine ev_indexA rfl rfl tabOk rfl rfl rfl (by omega) (by omega) rfl ?_
      | refine ev_convB rfl rfl tabOk rfl rfl rfl rfl ?_
      | refine ev_conv rfl rfl tabOk rfl rfl rfl (by simp only [lowK, hiK]; omega) ?_)
    refine ev_call rfl rfl rfl (rdAt p s a _ hR3) (fun r w4 hr => ?_)
    obtain ⟨rfl, hf4⟩ := hr
    repeat (first
      | refine stepF_ok tabOk [] (m := 400) rfl ?_
      | refine stepF_ok tabOk [] (m := 16) rfl ?_
      | refine stepF_ok tabOk [] (m := 3) rfl ?_
      | refine stepF_ok tabOk [] (m := 0) rfl ?_
      | refine ev_load rfl rfl tabOk rfl rfl (by assumption) ?_
      | refine ev_loadB rfl rfl tabOk rfl rfl (by assumption) (by rfl) ?_
      | refine ev_loadAggB rfl rfl tabOk rfl rfl (by assumption) (by rfl) ?_
      | refine ev_arith rfl rfl rfl rfl rfl (by simp only [lowK, hiK]; omega) ?_
      | refine ev_rem rfl rfl rfl rfl (by omega) (by omega) ?_
      | refine ev_quo rfl rfl rfl rfl (by omega) (by omega) (by simp only [hiK]; omega) ?_
      | refine ev_index rfl rfl tabOk rfl rfl rfl (by omega) (by omega) ?_
      | refine ev_indexA rfl rfl tabOk rfl rfl rfl (by omega) (by omega) rfl ?_
      | refine ev_convB rfl rfl tabOk rfl rfl rfl rfl ?_
      | refine ev_conv rfl rfl tabOk rfl rfl rfl (by simp only [lowK, hiK]; omega) ?_)
    subst ht1
    refine ret2 (.inr rfl) rfl rfl rfl ⟨v, by rw [← ht2], ho3.fr0 hf4, hf03.tr hf4⟩
  · have h2 : G.1 = 0 := hE.1 (by omega)
    rw [if_pos h2] at ht1 ht2
    have hadv := hadv h2
    repeat (first
      | refine stepF_ok tabOk [] (m := 400) rfl ?_
      | refine stepF_ok tabOk [] (m := 16) rfl ?_
      | refine stepF_ok tabOk [] (m := 3) rfl ?_
      | refine stepF_ok tabOk [] (m := 0) rfl ?_
      | refine ev_load rfl rfl tabOk rfl rfl (by assumption) ?_
      | refine ev_loadB rfl rfl tabOk rfl rfl (by assumption) (by rfl) ?_
      | refine ev_loadAggB rfl rfl tabOk rfl rfl (by assumption) (by rfl) ?_
      | refine ev_arith rfl rfl rfl rfl rfl (by simp only [lowK, hiK]; omega) ?_
      | refine ev_rem rfl rfl rfl rfl (by omega) (by omega) ?_
      | refine ev_quo rfl rfl rfl rfl (by omega) (by omega) (by simp only [hiK]; omega) ?_
      | refine ev_index rfl rfl tabOk rfl rfl rfl (by omega) (by omega) ?_
      | refine ev_indexA rfl rfl tabOk rfl rfl rfl (by omega) (by omega) rfl ?_
      | refine ev_convB rfl rfl tabOk rfl rfl rfl rfl ?_
      | refine ev_conv rfl rfl tabOk rfl rfl rfl (by simp only [lowK, hiK]; omega) ?_)
    refine ev_append1 tabOk rfl rfl (fun _ => rfl) rfl rfl inf9 rfl (by omega) (fun _ => rfl) rfl rfl (by simp [Value.cells]) (by simp [flatV, Value.cells, Value.oneCell']) rfl ho3 (by omega) (fun v2 w4 q ho4 hf4 hn4 => ?_)
    have hR4 := hR3.fr hf4 (fun e => (hg p e).2 rfl)
    have hq : List.map sv out ++ flatV [Value.string (sOf G.2.1)] = (out ++ [G.2.1]).map sv := by simp [flatV, Value.cells]
    rw [hq] at ho4
    repeat (first
      | refine stepF_ok tabOk [] (m := 400) rfl ?_
      | refine stepF_ok tabOk [] (m := 16) rfl ?_
      | refine stepF_ok tabOk [] (m := 3) rfl ?_
      | refine stepF_ok tabOk [] (m := 0) rfl ?_
      | refine ev_load rfl rfl tabOk rfl rfl (by assumption) ?_
      | refine ev_loadB rfl rfl tabOk rfl rfl (by assumption) (by rfl) ?_
      | refine ev_loadAggB rfl rfl tabOk rfl rfl (by assumption) (by rfl) ?_
      | refine ev_arith rfl rfl rfl rfl rfl (by simp only [lowK, hiK]; omega) ?_
      | refine ev_rem rfl rfl rfl rfl (by omega) (by omega) ?_
      | refine ev_quo rfl rfl rfl rfl (by omega) (by omega) (by simp only [hiK]; omega) ?_
      | refine ev_index rfl rfl tabOk rfl rfl rfl (by omega) (by omega) ?_
      | refine ev_indexA rfl rfl tabOk rfl rfl rfl (by omega) (by omega) rfl ?_
      | refine ev_convB rfl rfl tabOk rfl rfl rfl rfl ?_
      | refine ev_conv rfl rfl tabOk rfl rfl rfl (by simp only [lowK, hiK]; omega) ?_)
    refine ev_next (f, G.2.2, v2, out ++ [G.2.1]) (by simp only; omega) ⟨by simp only; omega, hok.1, ?_, ht2, ?_, hR4, ?_, ?_, hf03.trans hf4 (fun u hu z => by have := (hg u z).1; omega)⟩ ⟨rfl, rfl, trivial⟩
    · simp only [List.append_assoc, List.singleton_append]; exact ht1
    · simp only [List.length_append, List.length_singleton]; omega
    · simp only [List.length_append, List.length_singleton]; exact ho4
    · intro g hg2
      rcases hn4 g hg2 with h | h
      · exact hg g h
      · have h5 := hf03.size; have h6 := hf3.size
        exact ⟨by omega, by omega⟩

theorem refFrames (s : List UInt8) (w : World) (hs : s.length ≤ 1000000000000) :
    CallsF Try.prog 55 [.string (sOf s)] w fun v w' => ∃ x, v = .tuple #[x, .int .i64 (frsT s).2] ∧ Own w' 9 1 x (frsT s).1.length ((frsT s).1.map sv) ∧ Fr no w w' := by
  obtain ⟨T, hT⟩ : ∃ T, T = frsT s := ⟨_, rfl⟩
  rw [← hT]
  refine callsF Try.func55 rfl rfl (by decide) rfl ?_
  repeat (first
    | refine stepF_ok tabOk [] (m := 400) rfl ?_
    | refine stepF_ok tabOk [] (m := 16) rfl ?_
    | refine stepF_ok tabOk [] (m := 3) rfl ?_
    | refine stepF_ok tabOk [] (m := 0) rfl ?_
    | refine ev_load rfl rfl tabOk rfl rfl (by assumption) ?_
    | refine ev_loadB rfl rfl tabOk rfl rfl (by assumption) (by rfl) ?_
    | refine ev_loadAggB rfl rfl tabOk rfl rfl (by assumption) (by rfl) ?_
    | refine ev_arith rfl rfl rfl rfl rfl (by simp only [lowK, hiK]; omega) ?_
    | refine ev_rem rfl rfl rfl rfl (by omega) (by omega) ?_
    | refine ev_quo rfl rfl rfl rfl (by omega) (by omega) (by simp only [hiK]; omega) ?_
    | refine ev_index rfl rfl tabOk rfl rfl rfl (by omega) (by omega) ?_
    | refine ev_indexA rfl rfl tabOk rfl rfl rfl (by omega) (by omega) rfl ?_
    | refine ev_convB rfl rfl tabOk rfl rfl rfl rfl ?_
    | refine ev_conv rfl rfl tabOk rfl rfl rfl (by simp only [lowK, hiK]; omega) ?_)
  refine ev_build rfl rfl (v := .agg #[.string (sOf s), .int .i64 0]) rfl (fun w => by kernel_rfl) ?_
  refine ev_alloc rfl rfl inf58 (fun p w1 hp hB hf1 => ?_)
  refine ev_storeAgg tabOk rfl rfl rfl rfl rfl rfl hB rfl (fun w2 hB2 hf2 => ?_)
  have hpw : w.heap.size ≤ p := hp
  have hf02 := fresh_set hf1 hpw hf2
  clear hB hf1 hf2
  repeat (first
    | refine stepF_ok tabOk [] (m := 400) rfl ?_
    | refine stepF_ok tabOk [] (m := 16) rfl ?_
    | refine stepF_ok tabOk [] (m := 3) rfl ?_
    | refine stepF_ok tabOk [] (m := 0) rfl ?_
    | refine ev_load rfl rfl tabOk rfl rfl (by assumption) ?_
    | refine ev_loadB rfl rfl tabOk rfl rfl (by assumption) (by rfl) ?_
    | refine ev_loadAggB rfl rfl tabOk rfl rfl (by assumption) (by rfl) ?_
    | refine ev_arith rfl rfl rfl rfl rfl (by simp only [lowK, hiK]; omega) ?_
    | refine ev_rem rfl rfl rfl rfl (by omega) (by omega) ?_
    | refine ev_quo rfl rfl rfl rfl (by omega) (by omega) (by simp only [hiK]; omega) ?_
    | refine ev_index rfl rfl tabOk rfl rfl rfl (by omega) (by omega) ?_
    | refine ev_indexA rfl rfl tabOk rfl rfl rfl (by omega) (by omega) rfl ?_
    | refine ev_convB rfl rfl tabOk rfl rfl rfl rfl ?_
    | refine ev_conv rfl rfl tabOk rfl rfl rfl (by simp only [lowK, hiK]; omega) ?_)
  refine ev_buildSlice tabOk rfl rfl rfl inf9 rfl rfl rfl (by simp) rfl (fun q w3 hq hb3 hf3 => ?_)
  have ho3 := own_of_blk (m := 0) (sz := 1) hb3 rfl (by omega)
  have hp2 := hB2.lt
  have hs2 := hf02.size
  repeat (first
    | refine stepF_ok tabOk [] (m := 400) rfl ?_
    | refine stepF_ok tabOk [] (m := 16) rfl ?_
    | refine stepF_ok tabOk [] (m := 3) rfl ?_
    | refine stepF_ok tabOk [] (m := 0) rfl ?_
    | refine ev_load rfl rfl tabOk rfl rfl (by assumption) ?_
    | refine ev_loadB rfl rfl tabOk rfl rfl (by assumption) (by rfl) ?_
    | refine ev_loadAggB rfl rfl tabOk rfl rfl (by assumption) (by rfl) ?_
    | refine ev_arith rfl rfl rfl rfl rfl (by simp only [lowK, hiK]; omega) ?_
    | refine ev_rem rfl rfl rfl rfl (by omega) (by omega) ?_
    | refine ev_quo rfl rfl rfl rfl (by omega) (by omega) (by simp only [hiK]; omega) ?_
    | refine ev_index rfl rfl tabOk rfl rfl rfl (by omega) (by omega) ?_
    | refine ev_indexA rfl rfl tabOk rfl rfl rfl (by omega) (by omega) rfl ?_
    | refine ev_convB rfl rfl tabOk rfl rfl rfl rfl ?_
    | refine ev_conv rfl rfl tabOk rfl rfl rfl (by simp only [lowK, hiK]; omega) ?_)
  refine ev_loop (α := Nat × Nat × Value × List (List UInt8)) (fun y => [(0, .string (sOf s)), (4, .pointer (some ⟨p, 0, none⟩)), (5, y.2.2.1)])
    (fun y w' => s.length < y.2.1 + y.1 ∧ y.2.1 ≤ s.length ∧ y.2.2.2 ++ (frs s y.1 y.2.1).1 = T.1 ∧ (frs s y.1 y.2.1).2 = T.2 ∧ y.2.2.2.length ≤ y.2.1 ∧ Blk w' p [.string (sOf s), .int .i64 y.2.1] 58 ∧ Own w' 9 1 y.2.2.1 y.2.2.2.length (y.2.2.2.map sv) ∧ (∀ g, y.2.2.1.ownBlock = some g → w.heap.size ≤ g ∧ g ≠ p) ∧ Fr no w w')
    (fun y => y.1) (s.length + 1, 0, _, []) ⟨rfl, rfl, rfl, trivial⟩ ⟨by simp only; omega, Nat.zero_le _, by rw [hT]; rfl, by rw [hT], Nat.zero_le _, hB2.fr0 hf3, ho3, fun g hg => by simp only [Value.ownBlock, Option.some.injEq] at hg; omega, hf02.tr hf3⟩ ?_
  clear hB2 hf02 hT ho3 hb3 hf3
  rintro ⟨f, a, v, out⟩ w2 ⟨hfa, ha, ht1, ht2, hol, hR, ho, hg, hf⟩
  simp only at hfa ha ht1 ht2 hol hR ho hg
  obtain ⟨f, rfl⟩ : ∃ q, f = q + 1 := ⟨f - 1, by omega⟩
  unfold frs at ht1 ht2
  have hok := frR_ok s a s.length ha
  have hadv := frR_adv s a s.length
  repeat (first
    | refine stepF_ok tabOk [] (m := 400) rfl ?_
    | refine stepF_ok tabOk [] (m := 16) rfl ?_
    | refine stepF_ok tabOk [] (m := 3) rfl ?_
    | refine stepF_ok tabOk [] (m := 0) rfl ?_
    | refine ev_load rfl rfl tabOk rfl rfl (by assumption) ?_
    | refine ev_loadB rfl rfl tabOk rfl rfl (by assumption) (by rfl) ?_
    | refine ev_loadAggB rfl rfl tabOk rfl rfl (by assumption) (by rfl) ?_
    | refine ev_arith rfl rfl rfl rfl rfl (by simp only [lowK, hiK]; omega) ?_
    | refine ev_rem rfl rfl rfl rfl (by omega) (by omega) ?_
    | refine ev_quo rfl rfl rfl rfl (by omega) (by omega) (by simp only [hiK]; omega) ?_
    | refine ev_index rfl rfl tabOk rfl rfl rfl (by omega) (by omega) ?_
    | refine ev_indexA rfl rfl tabOk rfl rfl rfl (by omega) (by omega) rfl ?_
    | refine ev_convB rfl rfl tabOk rfl rfl rfl rfl ?_
    | refine ev_conv rfl rfl tabOk rfl rfl rfl (by simp only [lowK, hiK]; omega) ?_)
  refine ev_call rfl rfl rfl (refReadFrame s a s.length _ ha (by omega)) (fun r w3 hr => ?_)
  obtain ⟨rfl, hf3⟩ := hr
  generalize frR s a s.length = G at *
  have hpw2 : p < w2.heap.size := hR.lt
  repeat (first
    | refine stepF_ok tabOk [] (m := 400) rfl ?_
    | refine stepF_ok tabOk [] (m := 16) rfl ?_
    | refine stepF_ok tabOk [] (m := 3) rfl ?_
    | refine stepF_ok tabOk [] (m := 0) rfl ?_
    | refine ev_load rfl rfl tabOk rfl rfl (by assumption) ?_
    | refine ev_loadB rfl rfl tabOk rfl rfl (by assumption) (by rfl) ?_
    | refine ev_loadAggB rfl rfl tabOk rfl rfl (by assumption) (by rfl) ?_
    | refine ev_arith rfl rfl rfl rfl rfl (by simp only [lowK, hiK]; omega) ?_
    | refine ev_rem rfl rfl rfl rfl (by omega) (by omega) ?_
    | refine ev_quo rfl rfl rfl rfl (by omega) (by omega) (by simp only [hiK]; omega) ?_
    | refine ev_index rfl rfl tabOk rfl rfl rfl (by omega) (by omega) ?_
    | refine ev_indexA rfl rfl tabOk rfl rfl rfl (by omega) (by omega) rfl ?_
    | refine ev_convB rfl rfl tabOk rfl rfl rfl rfl ?_
    | refine ev_conv rfl rfl tabOk rfl rfl rfl (by simp only [lowK, hiK]; omega) ?_)
  refine ev_alloc rfl rfl inf58 (fun c w4 hc hC hf4 => ?_)
  refine ev_storeAgg tabOk rfl rfl rfl rfl rfl rfl hC rfl (fun w5 hC5 hf5 => ?_)
  have hs3 := hf3.size
  have hs0 := hf.size
  have hgl := fun g hg => Own.lt ho g hg
  have hR5 := ((hR.fr0 hf3).fr0 hf4).fr hf5 (fun e => by omega)
  have ho5 := ((ho.fr0 hf3).fr0 hf4).fr hf5 (fun g hg' e => by have := hgl g hg'; omega)
  have hf05 : Fr no w w5 := fresh_set ((hf.tr hf3).tr hf4) (by omega) hf5
  clear hR ho hC
  repeat (first
    | refine stepF_ok tabOk [] (m := 400) rfl ?_
    | refine stepF_ok tabOk [] (m := 16) rfl ?_
    | refine stepF_ok tabOk [] (m := 3) rfl ?_
    | refine stepF_ok tabOk [] (m := 0) rfl ?_
    | refine ev_load rfl rfl tabOk rfl rfl (by assumption) ?_
    | refine ev_loadB rfl rfl tabOk rfl rfl (by assumption) (by rfl) ?_
    | refine ev_loadAggB rfl rfl tabOk rfl rfl (by assumption) (by rfl) ?_
    | refine ev_arith rfl rfl rfl rfl rfl (by simp only [lowK, hiK]; omega) ?_
    | refine ev_rem rfl rfl rfl rfl (by omega) (by omega) ?_
    | refine ev_quo rfl rfl rfl rfl (by omega) (by omega) (by simp only [hiK]; omega) ?_
    | refine ev_index rfl rfl tabOk rfl rfl rfl (by omega) (by omega) ?_
    | refine ev_indexA rfl rfl tabOk rfl rfl rfl (by omega) (by omega) rfl ?_
    | refine ev_convB rfl rfl tabOk rfl rfl rfl rfl ?_
    | refine ev_conv rfl rfl tabOk rfl rfl rfl (by simp only [lowK, hiK]; omega) ?_)
  refine ev_condD rfl (fun h0 => ?_) (fun h0 => ?_)
  · rw [if_neg h0] at ht1 ht2
    simp only [List.append_nil] at ht1
    have c1 : w5.cell? ⟨p, 1, none⟩ = some (.int .i64 a) := hR5.cell rfl
    repeat (first
      | refine stepF_ok tabOk [] (m := 400) rfl ?_
      | refine stepF_ok tabOk [] (m := 16) rfl ?_
      | refine stepF_ok tabOk [] (m := 3) rfl ?_
      | refine stepF_ok tabOk [] (m := 0) rfl ?_
      | refine ev_load rfl rfl tabOk rfl rfl (by assumption) ?_
      | refine ev_loadB rfl rfl tabOk rfl rfl (by assumption) (by rfl) ?_
      | refine ev_loadAggB rfl rfl tabOk rfl rfl (by assumption) (by rfl) ?_
      | refine ev_arith rfl rfl rfl rfl rfl (by simp only [lowK, hiK]; omega) ?_
      | refine ev_rem rfl rfl rfl rfl (by omega) (by omega) ?_
      | refine ev_quo rfl rfl rfl rfl (by omega) (by omega) (by simp only [hiK]; omega) ?_
      | refine ev_index rfl rfl tabOk rfl rfl rfl (by omega) (by omega) ?_
      | refine ev_indexA rfl rfl tabOk rfl rfl rfl (by omega) (by omega) rfl ?_
      | refine ev_convB rfl rfl tabOk rfl rfl rfl rfl ?_
      | refine ev_conv rfl rfl tabOk rfl rfl rfl (by simp only [lowK, hiK]; omega) ?_)
    refine ev_draw mixed (by kernel_rfl) ?_
    repeat (first
      | refine stepQF_ok tabOk (m := 400) rfl ?_
      | refine stepQF_ok tabOk (m := 16) rfl ?_
      | refine stepQF_ok tabOk (m := 3) rfl ?_
      | refine stepQF_ok tabOk (m := 0) rfl ?_
      | refine q_load rfl rfl tabOk rfl rfl (fun _ hf => cell_fr (by assumption) hf id) ?_
      | refine q_arith rfl rfl rfl rfl rfl (by simp only [lowK, hiK]; omega) ?_
      | refine q_rem rfl rfl rfl rfl (by omega) (by omega) ?_
      | refine q_quo rfl rfl rfl rfl (by omega) (by omega) (by simp only [hiK]; omega) ?_
      | refine q_index rfl rfl tabOk rfl rfl rfl (by omega) (by omega) ?_
      | refine q_convB rfl rfl tabOk rfl rfl rfl rfl ?_
      | refine q_conv rfl rfl tabOk rfl rfl rfl (by simp only [lowK, hiK]; omega) ?_)
    refine q_end fun w6 hf6 => ?_
    clear c1
    repeat (first
      | refine stepF_ok tabOk [] (m := 400) rfl ?_
      | refine stepF_ok tabOk [] (m := 16) rfl ?_
      | refine stepF_ok tabOk [] (m := 3) rfl ?_
      | refine stepF_ok tabOk [] (m := 0) rfl ?_
      | refine ev_load rfl rfl tabOk rfl rfl (by assumption) ?_
      | refine ev_loadB rfl rfl tabOk rfl rfl (by assumption) (by rfl) ?_
      | refine ev_loadAggB rfl rfl tabOk rfl rfl (by assumption) (by rfl) ?_
      | refine ev_arith rfl rfl rfl rfl rfl (by simp only [lowK, hiK]; omega) ?_
      | refine ev_rem rfl rfl rfl rfl (by omega) (by omega) ?_
      | refine ev_quo rfl rfl rfl rfl (by omega) (by omega) (by simp only [hiK]; omega) ?_
      | refine ev_index rfl rfl tabOk rfl rfl rfl (by omega) (by omega) ?_
      | refine ev_indexA rfl rfl tabOk rfl rfl rfl (by omega) (by omega) rfl ?_
      | refine ev_convB rfl rfl tabOk rfl rfl rfl rfl ?_
      | refine ev_conv rfl rfl tabOk rfl rfl rfl (by simp only [lowK, hiK]; omega) ?_)
    subst ht1
    exact ret2 (.inr rfl) rfl rfl rfl ⟨v, by rw [← ht2], ho5.fr0 hf6, hf05.tr hf6⟩
  · have h2 : G.1 = 0 := by omega
    rw [if_pos h2] at ht1 ht2
    have hadv := hadv h2
    repeat (first
      | refine stepF_ok tabOk [] (m := 400) rfl ?_
      | refine stepF_ok tabOk [] (m := 16) rfl ?_
      | refine stepF_ok tabOk [] (m := 3) rfl ?_
      | refine stepF_ok tabOk [] (m := 0) rfl ?_
      | refine ev_load rfl rfl tabOk rfl rfl (by assumption) ?_
      | refine ev_loadB rfl rfl tabOk rfl rfl (by assumption) (by rfl) ?_
      | refine ev_loadAggB rfl rfl tabOk rfl rfl (by assumption) (by rfl) ?_
      | refine ev_arith rfl rfl rfl rfl rfl (by simp only [lowK, hiK]; omega) ?_
      | refine ev_rem rfl rfl rfl rfl (by omega) (by omega) ?_
      | refine ev_quo rfl rfl rfl rfl (by omega) (by omega) (by simp only [hiK]; omega) ?_
      | refine ev_index rfl rfl tabOk rfl rfl rfl (by omega) (by omega) ?_
      | refine ev_indexA rfl rfl tabOk rfl rfl rfl (by omega) (by omega) rfl ?_
      | refine ev_convB rfl rfl tabOk rfl rfl rfl rfl ?_
      | refine ev_conv rfl rfl tabOk rfl rfl rfl (by simp only [lowK, hiK]; omega) ?_)
    refine ev_storeAgg tabOk rfl rfl rfl rfl rfl rfl hR5 rfl (fun w6 hR6 hf6 => ?_)
    have ho6 := ho5.fr hf6 (fun g hg' e => (hg g hg').2 e)
    have hf06 : Fr no w w6 := fresh_set hf05 (by omega) hf6
    clear ho5 hR5
    repeat (first
      | refine stepF_ok tabOk [] (m := 400) rfl ?_
      | refine stepF_ok tabOk [] (m := 16) rfl ?_
      | refine stepF_ok tabOk [] (m := 3) rfl ?_
      | refine stepF_ok tabOk [] (m := 0) rfl ?_
      | refine ev_load rfl rfl tabOk rfl rfl (by assumption) ?_
      | refine ev_loadB rfl rfl tabOk rfl rfl (by assumption) (by rfl) ?_
      | refine ev_loadAggB rfl rfl tabOk rfl rfl (by assumption) (by rfl) ?_
      | refine ev_arith rfl rfl rfl rfl rfl (by simp only [lowK, hiK]; omega) ?_
      | refine ev_rem rfl rfl rfl rfl (by omega) (by omega) ?_
      | refine ev_quo rfl rfl rfl rfl (by omega) (by omega) (by simp only [hiK]; omega) ?_
      | refine ev_index rfl rfl tabOk rfl rfl rfl (by omega) (by omega) ?_
      | refine ev_indexA rfl rfl tabOk rfl rfl rfl (by omega) (by omega) rfl ?_
      | refine ev_convB rfl rfl tabOk rfl rfl rfl rfl ?_
      | refine ev_conv rfl rfl tabOk rfl rfl rfl (by simp only [lowK, hiK]; omega) ?_)
    refine ev_append1 tabOk rfl rfl (fun _ => rfl) rfl rfl inf9 rfl (by omega) (fun _ => rfl) rfl rfl (by simp [Value.cells]) (by simp [flatV, Value.cells, Value.oneCell']) rfl ho6 (by omega) (fun v2 w7 q ho7 hf7 hn7 => ?_)
    have hR7 := hR6.fr hf7 (fun e => (hg p e).2 rfl)
    have hq : List.map sv out ++ flatV [Value.string (sOf G.2.1)] = (out ++ [G.2.1]).map sv := by simp [flatV, Value.cells]
    rw [hq] at ho7
    repeat (first
      | refine stepF_ok tabOk [] (m := 400) rfl ?_
      | refine stepF_ok tabOk [] (m := 16) rfl ?_
      | refine stepF_ok tabOk [] (m := 3) rfl ?_
      | refine stepF_ok tabOk [] (m := 0) rfl ?_
      | refine ev_load rfl rfl tabOk rfl rfl (by assumption) ?_
      | refine ev_loadB rfl rfl tabOk rfl rfl (by assumption) (by rfl) ?_
      | refine ev_loadAggB rfl rfl tabOk rfl rfl (by assumption) (by rfl) ?_
      | refine ev_arith rfl rfl rfl rfl rfl (by simp only [lowK, hiK]; omega) ?_
      | refine ev_rem rfl rfl rfl rfl (by omega) (by omega) ?_
      | refine ev_quo rfl rfl rfl rfl (by omega) (by omega) (by simp only [hiK]; omega) ?_
      | refine ev_index rfl rfl tabOk rfl rfl rfl (by omega) (by omega) ?_
      | refine ev_indexA rfl rfl tabOk rfl rfl rfl (by omega) (by omega) rfl ?_
      | refine ev_convB rfl rfl tabOk rfl rfl rfl rfl ?_
      | refine ev_conv rfl rfl tabOk rfl rfl rfl (by simp only [lowK, hiK]; omega) ?_)
    refine ev_next (f, G.2.2, v2, out ++ [G.2.1]) (by simp only; omega) ⟨by simp only; omega, hok.1, ?_, ht2, ?_, hR7, ?_, ?_, hf06.trans hf7 (fun u hu z => by have := (hg u z).1; omega)⟩ ⟨rfl, rfl, rfl, trivial⟩
    · simp only [List.append_assoc, List.singleton_append]; exact ht1
    · simp only [List.length_append, List.length_singleton]; omega
    · simp only [List.length_append, List.length_singleton]; exact ho7
    · intro g hg2
      rcases hn7 g hg2 with h | h
      · exact hg g h
      · have h5 := hf06.size
        have h6 := hR6.lt
        exact ⟨by omega, by omega⟩

theorem wordsC (A B : Option Addr) (l m : List (List UInt8)) (c d : Nat) (w : World) (hA : Cs w A (l.map sv)) (hB : Cs w B (m.map sv)) (hl : l.length ≤ 9223372036854775807) :
    CallsF Try.prog 40 [.slice A l.length c, .slice B m.length d] w fun r w' => r = .bool (decide (l = m)) ∧ Fr no w w' := by
  refine callsF Try.func40 rfl rfl (by decide) rfl ?_
  repeat (first
    | refine stepF_ok tabOk [] (m := 400) rfl ?_
    | refine stepF_ok tabOk [] (m := 16) rfl ?_
    | refine stepF_ok tabOk [] (m := 3) rfl ?_
    | refine stepF_ok tabOk [] (m := 0) rfl ?_
    | refine ev_load rfl rfl tabOk rfl rfl (by assumption) ?_
    | refine ev_loadB rfl rfl tabOk rfl rfl (by assumption) (by rfl) ?_
    | refine ev_loadAggB rfl rfl tabOk rfl rfl (by assumption) (by rfl) ?_
    | refine ev_arith rfl rfl rfl rfl rfl (by simp only [lowK, hiK]; omega) ?_
    | refine ev_rem rfl rfl rfl rfl (by omega) (by omega) ?_
    | refine ev_quo rfl rfl rfl rfl (by omega) (by omega) (by simp only [hiK]; omega) ?_
    | refine ev_index rfl rfl tabOk rfl rfl rfl (by omega) (by omega) ?_
    | refine ev_indexA rfl rfl tabOk rfl rfl rfl (by omega) (by omega) rfl ?_
    | refine ev_convB rfl rfl tabOk rfl rfl rfl rfl ?_
    | refine ev_conv rfl rfl tabOk rfl rfl rfl (by simp only [lowK, hiK]; omega) ?_)
  refine ev_condD rfl (fun hne => ?_) (fun heq => ?_)
  · repeat (first
      | refine stepF_ok tabOk [] (m := 400) rfl ?_
      | refine stepF_ok tabOk [] (m := 16) rfl ?_
      | refine stepF_ok tabOk [] (m := 3) rfl ?_
      | refine stepF_ok tabOk [] (m := 0) rfl ?_
      | refine ev_load rfl rfl tabOk rfl rfl (by assumption) ?_
      | refine ev_loadB rfl rfl tabOk rfl rfl (by assumption) (by rfl) ?_
      | refine ev_loadAggB rfl rfl tabOk rfl rfl (by assumption) (by rfl) ?_
      | refine ev_arith rfl rfl rfl rfl rfl (by simp only [lowK, hiK]; omega) ?_
      | refine ev_rem rfl rfl rfl rfl (by omega) (by omega) ?_
      | refine ev_quo rfl rfl rfl rfl (by omega) (by omega) (by simp only [hiK]; omega) ?_
      | refine ev_index rfl rfl tabOk rfl rfl rfl (by omega) (by omega) ?_
      | refine ev_indexA rfl rfl tabOk rfl rfl rfl (by omega) (by omega) rfl ?_
      | refine ev_convB rfl rfl tabOk rfl rfl rfl rfl ?_
      | refine ev_conv rfl rfl tabOk rfl rfl rfl (by simp only [lowK, hiK]; omega) ?_)
    have : l ≠ m := fun h => hne (by rw [h])
    exact ret1 (.inr rfl) rfl rfl ⟨by rw [decide_eq_false this], Fr.refl _ _⟩
  have heq : l.length = m.length := by omega
  repeat (first
    | refine stepF_ok tabOk [] (m := 400) rfl ?_
    | refine stepF_ok tabOk [] (m := 16) rfl ?_
    | refine stepF_ok tabOk [] (m := 3) rfl ?_
    | refine stepF_ok tabOk [] (m := 0) rfl ?_
    | refine ev_load rfl rfl tabOk rfl rfl (by assumption) ?_
    | refine ev_loadB rfl rfl tabOk rfl rfl (by assumption) (by rfl) ?_
    | refine ev_loadAggB rfl rfl tabOk rfl rfl (by assumption) (by rfl) ?_
    | refine ev_arith rfl rfl rfl rfl rfl (by simp only [lowK, hiK]; omega) ?_
    | refine ev_rem rfl rfl rfl rfl (by omega) (by omega) ?_
    | refine ev_quo rfl rfl rfl rfl (by omega) (by omega) (by simp only [hiK]; omega) ?_
    | refine ev_index rfl rfl tabOk rfl rfl rfl (by omega) (by omega) ?_
    | refine ev_indexA rfl rfl tabOk rfl rfl rfl (by omega) (by omega) rfl ?_
    | refine ev_convB rfl rfl tabOk rfl rfl rfl rfl ?_
    | refine ev_conv rfl rfl tabOk rfl rfl rfl (by simp only [lowK, hiK]; omega) ?_)
  refine ev_loop (α := Nat) (fun k => [(0, .slice A l.length c), (1, .slice B m.length d), (5, .int .i64 k)])
    (fun k w1 => k ≤ l.length ∧ l.take k = m.take k ∧ Fr no w w1) (fun k => l.length - k) 0 ⟨rfl, rfl, rfl, trivial⟩ ⟨Nat.zero_le _, rfl, Fr.refl _ _⟩ ?_
  rintro k w1 ⟨hk, ht, hf1⟩
  repeat (first
    | refine stepF_ok tabOk [] (m := 400) rfl ?_
    | refine stepF_ok tabOk [] (m := 16) rfl ?_
    | refine stepF_ok tabOk [] (m := 3) rfl ?_
    | refine stepF_ok tabOk [] (m := 0) rfl ?_
    | refine ev_load rfl rfl tabOk rfl rfl (by assumption) ?_
    | refine ev_loadB rfl rfl tabOk rfl rfl (by assumption) (by rfl) ?_
    | refine ev_loadAggB rfl rfl tabOk rfl rfl (by assumption) (by rfl) ?_
    | refine ev_arith rfl rfl rfl rfl rfl (by simp only [lowK, hiK]; omega) ?_
    | refine ev_rem rfl rfl rfl rfl (by omega) (by omega) ?_
    | refine ev_quo rfl rfl rfl rfl (by omega) (by omega) (by simp only [hiK]; omega) ?_
    | refine ev_index rfl rfl tabOk rfl rfl rfl (by omega) (by omega) ?_
    | refine ev_indexA rfl rfl tabOk rfl rfl rfl (by omega) (by omega) rfl ?_
    | refine ev_convB rfl rfl tabOk rfl rfl rfl rfl ?_
    | refine ev_conv rfl rfl tabOk rfl rfl rfl (by simp only [lowK, hiK]; omega) ?_)
  refine ev_condD rfl (fun hlt => ?_) (fun hlt => ?_)
  · have hk1 : k < l.length := by omega
    have hk2 : k < m.length := by omega
    obtain ⟨b1, o1, rfl, hc1⟩ := (hA.fr0 hf1) k (sv (l.getD k [])) (by simp [hk1])
    obtain ⟨b2, o2, rfl, hc2⟩ := (hB.fr0 hf1) k (sv (m.getD k [])) (by simp [hk2])
    have hc1' : w1.cell? ⟨b1, o1 + (k : Int).toNat * 1, none⟩ = some (sv (l.getD k [])) := by rw [Int.toNat_natCast, Nat.mul_one]; exact hc1
    have hc2' : w1.cell? ⟨b2, o2 + (k : Int).toNat * 1, none⟩ = some (sv (m.getD k [])) := by rw [Int.toNat_natCast, Nat.mul_one]; exact hc2
    repeat (first
      | refine stepF_ok tabOk [] (m := 400) rfl ?_
      | refine stepF_ok tabOk [] (m := 16) rfl ?_
      | refine stepF_ok tabOk [] (m := 3) rfl ?_
      | refine stepF_ok tabOk [] (m := 0) rfl ?_
      | refine ev_load rfl rfl tabOk rfl rfl (by assumption) ?_
      | refine ev_loadB rfl rfl tabOk rfl rfl (by assumption) (by rfl) ?_
      | refine ev_loadAggB rfl rfl tabOk rfl rfl (by assumption) (by rfl) ?_
      | refine ev_arith rfl rfl rfl rfl rfl (by simp only [lowK, hiK]; omega) ?_
      | refine ev_rem rfl rfl rfl rfl (by omega) (by omega) ?_
      | refine ev_quo rfl rfl rfl rfl (by omega) (by omega) (by simp only [hiK]; omega) ?_
      | refine ev_index rfl rfl tabOk rfl rfl rfl (by omega) (by omega) ?_
      | refine ev_indexA rfl rfl tabOk rfl rfl rfl (by omega) (by omega) rfl ?_
      | refine ev_convB rfl rfl tabOk rfl rfl rfl rfl ?_
      | refine ev_conv rfl rfl tabOk rfl rfl rfl (by simp only [lowK, hiK]; omega) ?_)
    refine ev_draw mixed (by kernel_rfl) ?_
    repeat (first
      | refine stepQF_ok tabOk (m := 400) rfl ?_
      | refine stepQF_ok tabOk (m := 16) rfl ?_
      | refine stepQF_ok tabOk (m := 3) rfl ?_
      | refine stepQF_ok tabOk (m := 0) rfl ?_
      | refine q_load rfl rfl tabOk rfl rfl (fun _ hf => cell_fr (by assumption) hf id) ?_
      | refine q_arith rfl rfl rfl rfl rfl (by simp only [lowK, hiK]; omega) ?_
      | refine q_rem rfl rfl rfl rfl (by omega) (by omega) ?_
      | refine q_quo rfl rfl rfl rfl (by omega) (by omega) (by simp only [hiK]; omega) ?_
      | refine q_index rfl rfl tabOk rfl rfl rfl (by omega) (by omega) ?_
      | refine q_convB rfl rfl tabOk rfl rfl rfl rfl ?_
      | refine q_conv rfl rfl tabOk rfl rfl rfl (by simp only [lowK, hiK]; omega) ?_)
    refine q_indexAddr rfl rfl tabOk rfl rfl rfl (by omega) (by omega) ?_
    repeat (first
      | refine stepQF_ok tabOk (m := 400) rfl ?_
      | refine stepQF_ok tabOk (m := 16) rfl ?_
      | refine stepQF_ok tabOk (m := 3) rfl ?_
      | refine stepQF_ok tabOk (m := 0) rfl ?_
      | refine q_load rfl rfl tabOk rfl rfl (fun _ hf => cell_fr (by assumption) hf id) ?_
      | refine q_arith rfl rfl rfl rfl rfl (by simp only [lowK, hiK]; omega) ?_
      | refine q_rem rfl rfl rfl rfl (by omega) (by omega) ?_
      | refine q_quo rfl rfl rfl rfl (by omega) (by omega) (by simp only [hiK]; omega) ?_
      | refine q_index rfl rfl tabOk rfl rfl rfl (by omega) (by omega) ?_
      | refine q_convB rfl rfl tabOk rfl rfl rfl rfl ?_
      | refine q_conv rfl rfl tabOk rfl rfl rfl (by simp only [lowK, hiK]; omega) ?_)
    refine q_indexAddr rfl rfl tabOk rfl rfl rfl (by omega) (by omega) ?_
    repeat (first
      | refine stepQF_ok tabOk (m := 400) rfl ?_
      | refine stepQF_ok tabOk (m := 16) rfl ?_
      | refine stepQF_ok tabOk (m := 3) rfl ?_
      | refine stepQF_ok tabOk (m := 0) rfl ?_
      | refine q_load rfl rfl tabOk rfl rfl (fun _ hf => cell_fr (by assumption) hf id) ?_
      | refine q_arith rfl rfl rfl rfl rfl (by simp only [lowK, hiK]; omega) ?_
      | refine q_rem rfl rfl rfl rfl (by omega) (by omega) ?_
      | refine q_quo rfl rfl rfl rfl (by omega) (by omega) (by simp only [hiK]; omega) ?_
      | refine q_index rfl rfl tabOk rfl rfl rfl (by omega) (by omega) ?_
      | refine q_convB rfl rfl tabOk rfl rfl rfl rfl ?_
      | refine q_conv rfl rfl tabOk rfl rfl rfl (by simp only [lowK, hiK]; omega) ?_)
    refine q_end fun w2 hf2 => ?_
    clear hc1' hc2' hc1 hc2
    have hf2 := hf1.tr hf2
    repeat (first
      | refine stepF_ok tabOk [] (m := 400) rfl ?_
      | refine stepF_ok tabOk [] (m := 16) rfl ?_
      | refine stepF_ok tabOk [] (m := 3) rfl ?_
      | refine stepF_ok tabOk [] (m := 0) rfl ?_
      | refine ev_load rfl rfl tabOk rfl rfl (by assumption) ?_
      | refine ev_loadB rfl rfl tabOk rfl rfl (by assumption) (by rfl) ?_
      | refine ev_loadAggB rfl rfl tabOk rfl rfl (by assumption) (by rfl) ?_
      | refine ev_arith rfl rfl rfl rfl rfl (by simp only [lowK, hiK]; omega) ?_
      | refine ev_rem rfl rfl rfl rfl (by omega) (by omega) ?_
      | refine ev_quo rfl rfl rfl rfl (by omega) (by omega) (by simp only [hiK]; omega) ?_
      | refine ev_index rfl rfl tabOk rfl rfl rfl (by omega) (by omega) ?_
      | refine ev_indexA rfl rfl tabOk rfl rfl rfl (by omega) (by omega) rfl ?_
      | refine ev_convB rfl rfl tabOk rfl rfl rfl rfl ?_
      | refine ev_conv rfl rfl tabOk rfl rfl rfl (by simp only [lowK, hiK]; omega) ?_)
    refine ev_condD rfl (fun hd => ?_) (fun hd => ?_)
    · repeat (first
        | refine stepF_ok tabOk [] (m := 400) rfl ?_
        | refine stepF_ok tabOk [] (m := 16) rfl ?_
        | refine stepF_ok tabOk [] (m := 3) rfl ?_
        | refine stepF_ok tabOk [] (m := 0) rfl ?_
        | refine ev_load rfl rfl tabOk rfl rfl (by assumption) ?_
        | refine ev_loadB rfl rfl tabOk rfl rfl (by assumption) (by rfl) ?_
        | refine ev_loadAggB rfl rfl tabOk rfl rfl (by assumption) (by rfl) ?_
        | refine ev_arith rfl rfl rfl rfl rfl (by simp only [lowK, hiK]; omega) ?_
        | refine ev_rem rfl rfl rfl rfl (by omega) (by omega) ?_
        | refine ev_quo rfl rfl rfl rfl (by omega) (by omega) (by simp only [hiK]; omega) ?_
        | refine ev_index rfl rfl tabOk rfl rfl rfl (by omega) (by omega) ?_
        | refine ev_indexA rfl rfl tabOk rfl rfl rfl (by omega) (by omega) rfl ?_
        | refine ev_convB rfl rfl tabOk rfl rfl rfl rfl ?_
        | refine ev_conv rfl rfl tabOk rfl rfl rfl (by simp only [lowK, hiK]; omega) ?_)
      have : l ≠ m := fun h => hd (by rw [h])
      exact ret1 (.inr rfl) rfl rfl ⟨by rw [decide_eq_false this], hf2⟩
    · repeat (first
        | refine stepF_ok tabOk [] (m := 400) rfl ?_
        | refine stepF_ok tabOk [] (m := 16) rfl ?_
        | refine stepF_ok tabOk [] (m := 3) rfl ?_
        | refine stepF_ok tabOk [] (m := 0) rfl ?_
        | refine ev_load rfl rfl tabOk rfl rfl (by assumption) ?_
        | refine ev_loadB rfl rfl tabOk rfl rfl (by assumption) (by rfl) ?_
        | refine ev_loadAggB rfl rfl tabOk rfl rfl (by assumption) (by rfl) ?_
        | refine ev_arith rfl rfl rfl rfl rfl (by simp only [lowK, hiK]; omega) ?_
        | refine ev_rem rfl rfl rfl rfl (by omega) (by omega) ?_
        | refine ev_quo rfl rfl rfl rfl (by omega) (by omega) (by simp only [hiK]; omega) ?_
        | refine ev_index rfl rfl tabOk rfl rfl rfl (by omega) (by omega) ?_
        | refine ev_indexA rfl rfl tabOk rfl rfl rfl (by omega) (by omega) rfl ?_
        | refine ev_convB rfl rfl tabOk rfl rfl rfl rfl ?_
        | refine ev_conv rfl rfl tabOk rfl rfl rfl (by simp only [lowK, hiK]; omega) ?_)
      refine ev_next (k + 1) (by omega) ⟨by omega, ?_, hf2⟩ ⟨rfl, rfl, rfl, trivial⟩
      have hd' : l.getD k [] = m.getD k [] := by
        by_cases h : l.getD k [] = m.getD k []
        · exact h
        · exact absurd h hd
      rw [List.take_succ_eq_append_getElem hk1, List.take_succ_eq_append_getElem hk2, ht]
      simp only [List.getD_eq_getElem?_getD, List.getElem?_eq_getElem hk1, List.getElem?_eq_getElem hk2, Option.getD_some] at hd'
      rw [hd']
  · have hk' : k = l.length := by omega
    subst hk'
    have : l = m := by rw [List.take_length, heq, List.take_length] at ht; exact ht
    repeat (first
      | refine stepF_ok tabOk [] (m := 400) rfl ?_
      | refine stepF_ok tabOk [] (m := 16) rfl ?_
      | refine stepF_ok tabOk [] (m := 3) rfl ?_
      | refine stepF_ok tabOk [] (m := 0) rfl ?_
      | refine ev_load rfl rfl tabOk rfl rfl (by assumption) ?_
      | refine ev_loadB rfl rfl tabOk rfl rfl (by assumption) (by rfl) ?_
      | refine ev_loadAggB rfl rfl tabOk rfl rfl (by assumption) (by rfl) ?_
      | refine ev_arith rfl rfl rfl rfl rfl (by simp only [lowK, hiK]; omega) ?_
      | refine ev_rem rfl rfl rfl rfl (by omega) (by omega) ?_
      | refine ev_quo rfl rfl rfl rfl (by omega) (by omega) (by simp only [hiK]; omega) ?_
      | refine ev_index rfl rfl tabOk rfl rfl rfl (by omega) (by omega) ?_
      | refine ev_indexA rfl rfl tabOk rfl rfl rfl (by omega) (by omega) rfl ?_
      | refine ev_convB rfl rfl tabOk rfl rfl rfl rfl ?_
      | refine ev_conv rfl rfl tabOk rfl rfl rfl (by simp only [lowK, hiK]; omega) ?_)
    exact ret1 (.inr rfl) rfl rfl ⟨by rw [decide_eq_true this], hf1⟩
end Go.Wk.Ytihjpjpellagiaa
