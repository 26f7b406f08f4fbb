/-
  The walks of chapter 14: the document's stream, ended and asked; kinds; whether the program answers.
-/
import Derived.Test.YtpnhfkmgnkdleaaDoorStL
set_option linter.unusedVariables false
namespace Go.Wk.YtpnhfkmgnkdleaaDoor
open Go Go.Wk Go.Proofs Go.Lib

theorem refEnd (A : Option Addr) (c : Nat) (D : DV) (w : World) (hs : D.all.length ≤ 100000000000) (ho : D.out.length ≤ 1000000000000) (hle : ¬ D.over → D.out.length ≤ (clean D.all).length) :
    CallsF Tryd.prog 44 [mM A c D] w fun r w' => r = .tuple #[mM A c D.end, sv D.endO] ∧ Fr no w w' := by
  refine callsF Tryd.func44 rfl rfl (by decide) rfl ?_
  refine sA [] rfl ?_
  refine ev_box rfl rfl rfl (fun b w1 hb hB hf => ?_)
  refine ev_alloc rfl rfl inf26 (fun r w2 hr hR hf2 => ?_)
  have hB : Blk w1 b [.bool D.none, .slice A D.stops.length c, sv D.all, sv D.out, .int .i64 D.met, .bool D.ended] 26 := hB
  have hB2 := hB.fr0 hf2
  have hf02 := hf.tr hf2
  have hbr : b ≠ r := fun e => by have := hB.lt; omega
  have hrw : w.heap.size ≤ r := by have := hf.size; omega
  clear hB
  have hover : D.over → ∀ w3, Fr (fun c => c = r) w2 w3 → tupV [mM A c { D with ended := true }, sv []] = .tuple #[mM A c D.end, sv D.endO] := fun h w3 hf3 => by
    unfold DV.end DV.endO; rw [if_pos h, if_pos h]; rfl
  obtain ⟨none, stops, all, out, met, ended⟩ := D
  cases none with
  | true =>
    refine sA [] rfl ?_; refine ev_loadB rfl rfl tabOk rfl rfl ‹_› (by rfl) ?_; refine sA [] rfl ?_
    refine ev_store tabOk rfl rfl rfl rfl rfl rfl hB2 rfl (fun w3 hB3 hf3 => ?_)
    have hR3 := hR.fr hf3 (fun e => hbr e.symm)
    refine sA [] rfl ?_; refine ev_loadAggB rfl rfl tabOk rfl rfl ‹_› (by rfl) ?_
    refine ev_storeAgg tabOk rfl rfl rfl rfl rfl rfl hR3 rfl (fun w4 hR4 hf4 => ?_)
    refine sA [] rfl ?_
    exact retG tabOk (.inr rfl) rfl [mM A c ⟨true, stops, all, out, met, true⟩, sv []] ⟨⟨_, rfl, .inl ⟨rfl, _, rfl, rfl, Cs.of_blk hR4⟩⟩, rfl, trivial⟩ ⟨hover (.inl rfl) _ (Fr.refl _ _), fresh_set (fresh_set hf02 hb hf3) hrw hf4⟩
  | false =>
  cases ended with
  | true =>
    refine sA [] rfl ?_; refine ev_loadB rfl rfl tabOk rfl rfl ‹_› (by rfl) ?_; refine sA [] rfl ?_; refine ev_loadB rfl rfl tabOk rfl rfl ‹_› (by rfl) ?_; refine sA [] rfl ?_
    refine ev_store tabOk rfl rfl rfl rfl rfl rfl hB2 rfl (fun w3 hB3 hf3 => ?_)
    have hR3 := hR.fr hf3 (fun e => hbr e.symm)
    refine sA [] rfl ?_; refine ev_loadAggB rfl rfl tabOk rfl rfl ‹_› (by rfl) ?_
    refine ev_storeAgg tabOk rfl rfl rfl rfl rfl rfl hR3 rfl (fun w4 hR4 hf4 => ?_)
    refine sA [] rfl ?_
    exact retG tabOk (.inr rfl) rfl [mM A c ⟨false, stops, all, out, met, true⟩, sv []] ⟨⟨_, rfl, .inl ⟨rfl, _, rfl, rfl, Cs.of_blk hR4⟩⟩, rfl, trivial⟩ ⟨hover (.inr (.inl rfl)) _ (Fr.refl _ _), fresh_set (fresh_set hf02 hb hf3) hrw hf4⟩
  | false =>
  refine sA [] rfl ?_; refine ev_loadB rfl rfl tabOk rfl rfl ‹_› (by rfl) ?_; refine sA [] rfl ?_; refine ev_loadB rfl rfl tabOk rfl rfl ‹_› (by rfl) ?_; refine sA [] rfl ?_; refine ev_loadB rfl rfl tabOk rfl rfl ‹_› (by rfl) ?_; refine sD [] rfl ?_; refine sD [] rfl ?_; refine sD [] rfl ?_
  refine ev_condD rfl (fun hm => ?_) (fun hm => ?_)
  · refine sA [] rfl ?_
    refine ev_store tabOk rfl rfl rfl rfl rfl rfl hB2 rfl (fun w3 hB3 hf3 => ?_)
    have hR3 := hR.fr hf3 (fun e => hbr e.symm)
    refine sA [] rfl ?_; refine ev_loadAggB rfl rfl tabOk rfl rfl ‹_› (by rfl) ?_
    refine ev_storeAgg tabOk rfl rfl rfl rfl rfl rfl hR3 rfl (fun w4 hR4 hf4 => ?_)
    refine sA [] rfl ?_
    exact retG tabOk (.inr rfl) rfl [mM A c ⟨false, stops, all, out, met, true⟩, sv []] ⟨⟨_, rfl, .inl ⟨rfl, _, rfl, rfl, Cs.of_blk hR4⟩⟩, rfl, trivial⟩ ⟨hover (.inr (.inr hm)) _ (Fr.refl _ _), fresh_set (fresh_set hf02 hb hf3) hrw hf4⟩
  have hno : ¬ DV.over ⟨false, stops, all, out, met, false⟩ := by
    rintro (h | h | h)
    · cases h
    · cases h
    · exact hm h
  have hle := hle hno
  clear hover
  simp only at hs ho hle
  refine sA [] rfl ?_
  refine ev_store tabOk rfl rfl rfl rfl rfl rfl hB2 rfl (fun w3 hB3 hf3 => ?_)
  have hf03 := fresh_set hf02 hb hf3
  have hR3 := hR.fr hf3 (fun e => hbr e.symm)
  have hcl := clean_len all
  have c2 : w3.cell? ⟨b, 2, Option.none⟩ = some (sv all) := hB3.cell rfl
  have c3 : w3.cell? ⟨b, 3, Option.none⟩ = some (sv out) := hB3.cell rfl
  refine sA [] rfl ?_
  refine ev_draw mixed (by kernel_rfl) ?_
  refine qA rfl ?_; refine q_load rfl rfl tabOk rfl rfl (fun _ hf => cell_fr (by assumption) hf id) ?_
  refine q_call rfl rfl rfl (fun w' hw' => (refClean all w' (by omega)).mono fun u w'' z => ⟨z.1, hw'.tr z.2⟩) ?_
  refine qA rfl ?_; refine q_load rfl rfl tabOk rfl rfl (fun _ hf => cell_fr (by assumption) hf id) ?_; refine qA rfl ?_
  refine q_sliceStr (s := clean all) (i := out.length) (j := (clean all).length) rfl rfl tabOk rfl rfl rfl rfl (by omega) (by omega) (by omega) ?_
  rw [Int.toNat_natCast, Int.toNat_natCast, List.take_length]
  refine qA rfl ?_
  refine q_end fun w7 hf7 => ?_
  clear c3 c2
  have hB7 := hB3.fr0 hf7
  have hR7 := hR3.fr0 hf7
  have c3 : w7.cell? ⟨b, 3, Option.none⟩ = some (sv out) := hB7.cell rfl
  refine sA [] rfl ?_; refine ev_load rfl rfl tabOk rfl rfl ‹_› ?_; refine sA [] rfl ?_
  refine ev_concat rfl rfl rfl rfl (by rw [List.length_drop]; omega) ?_
  refine sA [] rfl ?_
  refine ev_store tabOk rfl rfl rfl rfl rfl rfl hB7 rfl (fun w8 hB8 hf8 => ?_)
  have hR8 := hR7.fr hf8 (fun e => hbr e.symm)
  clear c3 hB7 hB3
  refine sA [] rfl ?_; refine ev_loadAggB rfl rfl tabOk rfl rfl ‹_› (by rfl) ?_; refine sA [] rfl ?_
  refine ev_storeAgg tabOk rfl rfl rfl rfl rfl rfl hR8 rfl (fun w9 hR9 hf9 => ?_)
  refine sA [] rfl ?_
  refine retG tabOk (.inr rfl) rfl [mM A c (DV.end ⟨false, stops, all, out, met, false⟩), sv (DV.endO ⟨false, stops, all, out, met, false⟩)] ⟨⟨_, rfl, .inl ⟨rfl, _, rfl, rfl, ?_⟩⟩, ?_, trivial⟩ ⟨rfl, fresh_set (fresh_set (hf03.tr hf7) hb hf8) hrw hf9⟩
  · unfold DV.end
    rw [if_neg hno]
    exact Cs.of_blk hR9
  · unfold DV.endO
    rw [if_neg hno]; rfl

theorem refBack (A : Option Addr) (c : Nat) (D : DV) (w : World) (hA : Cs w A (D.stops.map sv)) (hn : D.stops.length ≤ 100000000) (hst : ∀ t ∈ D.stops, t.length ≤ 100000000) (hs : D.all.length ≤ 100000000000) :
    CallsF Tryd.prog 45 [mM A c D] w fun r w' => r = sv D.back ∧ Fr no w w' := by
  refine callsF Tryd.func45 rfl rfl (by decide) rfl ?_
  refine sA [] rfl ?_
  refine ev_box rfl rfl rfl (fun b w1 hb hB hf => ?_)
  have hB : Blk w1 b [.bool D.none, .slice A D.stops.length c, sv D.all, sv D.out, .int .i64 D.met, .bool D.ended] 26 := hB
  have hover : D.over → sv [] = sv D.back := fun h => by unfold DV.back; rw [if_pos h]
  obtain ⟨none, stops, all, out, met, ended⟩ := D
  cases none with
  | true =>
    refine sA [] rfl ?_; refine ev_loadB rfl rfl tabOk rfl rfl ‹_› (by rfl) ?_; refine sA [] rfl ?_
    exact ret1 (.inr rfl) rfl rfl ⟨hover (.inl rfl), hf⟩
  | false =>
  cases ended with
  | true =>
    refine sA [] rfl ?_; refine ev_loadB rfl rfl tabOk rfl rfl ‹_› (by rfl) ?_; refine sA [] rfl ?_; refine ev_loadB rfl rfl tabOk rfl rfl ‹_› (by rfl) ?_; refine sA [] rfl ?_
    exact ret1 (.inr rfl) rfl rfl ⟨hover (.inr (.inl rfl)), hf⟩
  | false =>
  refine sA [] rfl ?_; refine ev_loadB rfl rfl tabOk rfl rfl ‹_› (by rfl) ?_; refine sA [] rfl ?_; refine ev_loadB rfl rfl tabOk rfl rfl ‹_› (by rfl) ?_; refine sA [] rfl ?_; refine ev_loadB rfl rfl tabOk rfl rfl ‹_› (by rfl) ?_; refine sD [] rfl ?_; refine sD [] rfl ?_; refine sD [] rfl ?_
  refine ev_condD rfl (fun hm => ?_) (fun hm => ?_)
  · refine sA [] rfl ?_
    exact ret1 (.inr rfl) rfl rfl ⟨hover (.inr (.inr hm)), hf⟩
  have hno : ¬ DV.over ⟨false, stops, all, out, met, false⟩ := by
    rintro (h | h | h)
    · cases h
    · cases h
    · exact hm h
  simp only at hA hn hst hs
  refine sA [] rfl ?_; refine ev_loadB rfl rfl tabOk rfl rfl ‹_› (by rfl) ?_; refine sA [] rfl ?_; refine ev_loadB rfl rfl tabOk rfl rfl ‹_› (by rfl) ?_
  refine ev_call rfl rfl rfl (refHeld A c stops all _ (hA.fr0 hf) hn hst hs) (fun q w6 hq => ?_)
  obtain ⟨rfl, hf6⟩ := hq
  refine sA [] rfl ?_
  refine ret1 (.inr rfl) rfl rfl ⟨?_, hf.tr hf6⟩
  unfold DV.back; rw [if_neg hno]

theorem lawKind (k : Int) (w : World) : CallsF Tryd.prog 43 [.int .i64 k, .int .i64 6] w fun r w' => r = .int .i64 (k % 6) ∧ w' = w := by
  refine callsF Tryd.func43 rfl rfl (by decide) rfl ?_
  refine sA [] rfl ?_
  refine ev_remT rfl rfl rfl rfl (by omega) ?_
  have e1 : k.tmod 6 = if 0 ≤ k ∨ k % 6 = 0 then k % 6 else k % 6 - 6 := by rw [Int.tmod_eq_emod]; split <;> split <;> omega
  have e2 : -6 < k.tmod 6 ∧ k.tmod 6 < 6 := by rw [e1]; split <;> omega
  have e3 : (k.tmod 6 + 6) % 6 = k % 6 := by rw [e1]; split <;> omega
  refine sA [] rfl ?_; refine ev_arith rfl rfl rfl rfl rfl (by simp only [lowK, hiK]; omega) ?_; refine sA [] rfl ?_; refine ev_rem rfl rfl rfl rfl (by omega) (by omega) ?_; refine sA [] rfl ?_
  rw [e3]
  exact ret1 (.inr rfl) rfl rfl ⟨rfl, rfl⟩
end Go.Wk.YtpnhfkmgnkdleaaDoor
