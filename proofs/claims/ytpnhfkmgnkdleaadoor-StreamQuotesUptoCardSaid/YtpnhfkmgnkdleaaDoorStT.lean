/-
  The walks of chapter 14: one call, beside the document's answer.
-/
import Derived.Test.YtpnhfkmgnkdleaaDoorStS
set_option linter.unusedVariables false
namespace Go.Wk.YtpnhfkmgnkdleaaDoor
open Go Go.Wk Go.Proofs Go.Lib

/-- the document's stream behind one call -/
def DV.step (D : DV) (k : Int) (piece : List UInt8) : DV := if k % 6 = 2 then D.end else if k % 6 = 3 ∨ k % 6 = 4 ∨ k % 6 = 5 then D else D.feed piece
theorem step_stops (D : DV) (k : Int) (piece : List UInt8) : (D.step k piece).stops = D.stops ∧ (D.step k piece).all.length ≤ D.all.length + piece.length := by
  unfold DV.step
  split
  · unfold DV.end; split <;> exact ⟨rfl, by simp⟩
  · split
    · exact ⟨rfl, by omega⟩
    · unfold DV.feed; split
      · exact ⟨rfl, by omega⟩
      · exact ⟨rfl, by simp⟩

theorem Cs.frb {B E : Nat} {w w' : World} {A : Option Addr} {xs : List Value} (h : Cs w A xs) (hf : Fr (bet B E) w w') (hA : ∀ a, A = some a → ¬ bet B E a.block) : Cs w' A xs := h.fr hf hA
theorem UT.frb {B E : Nat} {w w' : World} (h : UT w) (hf : Fr (bet B E) w w') (hB : 1 < B) : UT w' := h.fr hf (fun e => by have := e.1; omega) (fun e => by have := e.1; omega)

theorem fresh6 {B E p : Nat} {w w1 w2 w3 : World} (h1 : Fr no w w1) (h2 : Fr (bet B E) w1 w2) (hp : w.heap.size ≤ p) (h3 : Fr (fun b => b = p) w2 w3) : Fr (bet B E) w w3 :=
  (h1.tr0 h2).trans h3 fun b hb e => by omega
set_option maxHeartbeats 2000000 in
theorem lawStep (B E : Nat) (x : Value) (A : Option Addr) (c : Nat) (D : DV) (k : Int) (piece : List UInt8) (w : World) (h : Hd B E w x D) (hC : Cs w A (D.stops.map sv)) (hAb : ∀ a, A = some a → ¬ bet B E a.block) (hB : 1 < B) (hE : E ≤ w.heap.size) (hT : UT w)
    (ha : D.all.length ≤ 10000000) (hp : piece.length ≤ 10000000) (hk1 : -9223372036854775808 ≤ k) (hk2 : k ≤ 9223372036854775807) :
    CallsF Tryd.prog 16 [x, mM A c D, .agg ⟨[.int .i64 k, sv piece]⟩] w fun r w' => r = .tuple #[mM A c (D.step k piece), .bool true] ∧ Hd B E w' x (D.step k piece) ∧ Fr (bet B E) w w' := by
  obtain ⟨hs1, hs2, hs3⟩ := h.rel_stops
  have hT1 := hT.lt
  have hst : ∀ t ∈ D.stops, t.length ≤ 100000000 := fun t ht => by have := hs2 t ht; omega
  refine callsF Tryd.func16 rfl rfl (by decide) rfl ?_
  refine sA [] rfl ?_
  refine ev_box rfl rfl rfl (fun p4 w1 hp4 hB4 hf1 => ?_)
  refine ev_box rfl rfl rfl (fun p5 w2 hp5 hB5 hf2 => ?_)
  refine ev_alloc rfl rfl inf26 (fun p6 w3 hp6 hB6 hf3 => ?_)
  have hB4 : Blk w1 p4 [.bool D.none, .slice A D.stops.length c, sv D.all, sv D.out, .int .i64 D.met, .bool D.ended] 26 := hB4
  have hB5 : Blk w2 p5 [.int .i64 k, sv piece] 31 := hB5
  have hl4 := hB4.lt; have hl5 := hB5.lt; have hl6 := hB6.lt
  have hB4 := (hB4.fr0 hf2).fr0 hf3
  have hB5 := hB5.fr0 hf3
  have hf03 := (hf1.tr hf2).tr hf3
  have hz1 := hf1.size; have hz2 := hf2.size; have hz3 := hf3.size
  have h3 := h.fr0 hf03
  have hC3 := hC.fr0 hf03
  have hT3 := hT.fr0 hf03
  clear hf1 hf2 hf3 h hC hT
  refine sA [] rfl ?_; refine ev_loadB rfl rfl tabOk rfl rfl ‹_› (by rfl) ?_
  refine ev_call rfl rfl rfl (lawKind k _) (fun r w4 hr => ?_)
  obtain ⟨rfl, rfl⟩ := hr
  have hm0 : 0 ≤ k % 6 ∧ k % 6 < 6 := ⟨by omega, by omega⟩
  obtain ⟨q, hq⟩ : ∃ q, q = k % 6 := ⟨_, rfl⟩
  unfold DV.step
  rw [← hq]
  rw [← hq] at hm0
  refine sC [] rfl ?_; refine sD [] rfl ?_; refine sD [] rfl ?_; refine sD [] rfl ?_
  refine ev_condD rfl (fun g2 => ?_) (fun g2 => ?_)
  · rw [if_pos g2]
    refine sA [] rfl ?_; refine ev_loadAggB rfl rfl tabOk rfl rfl ‹_› (by rfl) ?_
    refine ev_call rfl rfl rfl (refEnd A c D _ (by omega) (by omega) h3.leEnd) (fun r w5 hr => ?_)
    obtain ⟨rfl, hf5⟩ := hr
    have hB4 := hB4.fr0 hf5; have hB6 := hB6.fr0 hf5
    have h5 := h3.fr0 hf5
    have hT5 := hT3.fr0 hf5
    have hf05 := hf03.tr hf5
    have hz5 := hf5.size
    obtain ⟨D', hD'⟩ : ∃ D', D' = D.end := ⟨_, rfl⟩
    rw [← hD']
    refine sA [] rfl ?_
    refine ev_storeAgg tabOk rfl rfl rfl rfl rfl rfl hB4 rfl (fun w6 hB4 hf6 => ?_)
    have hB6 := hB6.fr hf6 (fun e => by omega)
    have h6 := h5.fr hf6 (fun b hb e => by have := hb.2; omega)
    have hf06 := fresh_set hf05 (show w.heap.size ≤ p4 by omega) hf6
    have hT6 := hT5.fr hf6 (fun e => by omega) (fun e => by omega)
    clear hf5 hf6 hT3 hT5 h3 h5 hf03 hf05
    have c4 : Cs w6 (some ⟨p4, 0, none⟩) [.bool D'.none, .slice A D'.stops.length c, sv D'.all, sv D'.out, .int .i64 D'.met, .bool D'.ended] := Cs.of_blk hB4
    refine sA [] rfl ?_
    refine mixC_in (fun w' => Fr (fun b => bet B E b ∨ b = p6) w6 w') mixed (fun w7 hf7 => ?_)
    have hf7' : Fr (fun b => bet B E b ∨ b = p6) w6 w7 := hf7.mono fun _ _ z => z.elim
    have hB6 := hB6.fr0 hf7
    refine mA rfl (by kernel_rfl) (by kernel_rfl) ?_
    refine m_loadAgg 0 rfl rfl rfl (by kernel_rfl) (by kernel_rfl) rfl rfl tabOk rfl rfl rfl (fun w' hw => c4.fr hw (fun a ha e => by cases ha; rcases e with e | e <;> simp only at e <;> omega)) ?_
    refine mix1 rfl rfl ?_ hf7'
    refine ev_call rfl rfl rfl (hEnd (h6.fr0 hf7) hB (hT6.fr0 hf7) (by omega)) (fun r w8 hr => ?_)
    obtain ⟨⟨rfl, h8⟩, hf8⟩ := hr
    rw [← hD'] at h8
    have hf78 := hf7'.trans hf8 (fun _ _ e => .inl e)
    have hB6 := hB6.fr hf8 (fun e => by have := e.2; omega)
    refine mix_op ?_
    refine mA rfl (by kernel_rfl) (by kernel_rfl) ?_
    refine mix1 rfl rfl ?_ hf78
    refine ev_storeAgg tabOk rfl rfl rfl rfl rfl rfl hB6 rfl (fun w9 hB9 hf9 => ?_)
    have hf79 := hf78.trans hf9 (fun _ _ e => .inr e)
    have h9 := h8.fr hf9 (fun b hb e => by have := hb.2; omega)
    refine mix_op ?_
    refine mA rfl (by kernel_rfl) (by kernel_rfl) ?_
    refine mix_out rfl ?_ hf79
    refine sA [] rfl ?_
    refine retG tabOk (.inr rfl) rfl [mM A c D', _] ⟨⟨_, rfl, .inl ⟨rfl, _, rfl, rfl, Cs.of_blk hB9⟩⟩, rfl, trivial⟩ ⟨?_, h9, fresh6 (hf06.tr hf7) hf8 (by omega) hf9⟩
    rw [show decide (D.endO = D.endO) = true from decide_eq_true rfl]; rfl
  rw [if_neg g2]
  refine sC [] rfl ?_; refine sD [] rfl ?_
  refine ev_condD rfl (fun g3 => ?_) (fun g3 => ?_)
  · rw [if_pos (.inl g3)]
    refine sA [] rfl ?_
    refine ev_call rfl rfl rfl (hStopped h3) (fun r w5 hr => ?_)
    obtain ⟨⟨a, b, rfl, hb, ha'⟩, hf5⟩ := hr
    have hB4 := hB4.fr0 hf5; have hB6 := hB6.fr0 hf5
    have h5 := h3.fr0 hf5
    have hf05 := hf03.tr hf5
    have hz5 := hf5.size
    have c5 : w5.cell? ⟨p4, 4, none⟩ = some (.int .i64 D.met) := hB4.cell rfl
    refine sA [] rfl ?_; refine ev_load rfl rfl tabOk rfl rfl ‹_› ?_; refine sD [] rfl ?_; refine sD [] rfl ?_
    refine ev_condD rfl (fun g0 => ?_) (fun g0 => ?_)
    · rw [if_pos g0] at ha'
      rw [decide_eq_false (by omega)] at hb
      subst ha' hb
      refine sA [] rfl ?_; refine ev_loadAggB rfl rfl tabOk rfl rfl ‹_› (by rfl) ?_; refine sA [] rfl ?_
      refine ev_storeAgg tabOk rfl rfl rfl rfl rfl rfl hB6 rfl (fun w9 hB9 hf9 => ?_)
      have h9 := h5.fr hf9 (fun b hb e => by have := hb.2; omega)
      refine sA [] rfl ?_
      exact retG tabOk (.inr rfl) rfl [mM A c D, .bool true] ⟨⟨_, rfl, .inl ⟨rfl, _, rfl, rfl, Cs.of_blk hB9⟩⟩, rfl, trivial⟩ ⟨rfl, h9, (fresh_set hf05 (by omega) hf9).mono fun _ _ e => e.elim⟩
    · rw [if_neg g0] at ha'
      rw [decide_eq_true (by omega)] at hb
      subst ha' hb
      refine sA [] rfl ?_; refine ev_loadAggB rfl rfl tabOk rfl rfl ‹_› (by rfl) ?_; refine sA [] rfl ?_; refine ev_load rfl rfl tabOk rfl rfl ‹_› ?_; refine sD [] rfl ?_; refine sD [] rfl ?_
      refine ev_guardD rfl rfl (fun _ => ?_) (fun e => absurd rfl e)
      refine sA [] rfl ?_
      refine ev_storeAgg tabOk rfl rfl rfl rfl rfl rfl hB6 rfl (fun w9 hB9 hf9 => ?_)
      have h9 := h5.fr hf9 (fun b hb e => by have := hb.2; omega)
      refine sA [] rfl ?_
      exact retG tabOk (.inr rfl) rfl [mM A c D, .bool true] ⟨⟨_, rfl, .inl ⟨rfl, _, rfl, rfl, Cs.of_blk hB9⟩⟩, rfl, trivial⟩ ⟨rfl, h9, (fresh_set hf05 (by omega) hf9).mono fun _ _ e => e.elim⟩
  refine sC [] rfl ?_; refine sD [] rfl ?_
  refine ev_condD rfl (fun g4 => ?_) (fun g4 => ?_)
  · rw [if_pos (.inr (.inl g4))]
    have c4 : Cs w4 (some ⟨p4, 0, none⟩) [.bool D.none, .slice A D.stops.length c, sv D.all, sv D.out, .int .i64 D.met, .bool D.ended] := Cs.of_blk hB4
    refine sA [] rfl ?_
    refine mixC_in (fun w' => Fr (fun b => b = p6) w4 w') mixed (fun w7 hf7 => ?_)
    have up : ∀ {w'}, Fr no w4 w' → Fr (fun b => b = p6) w4 w' := fun h => h.mono fun _ _ z => z.elim
    refine mA rfl (by kernel_rfl) (by kernel_rfl) ?_
    refine m_loadAgg 0 rfl rfl rfl (by kernel_rfl) (by kernel_rfl) rfl rfl tabOk rfl rfl rfl (fun w' hw => c4.fr hw (fun a ha e => by cases ha; simp only at e; omega)) ?_
    refine m_loadAgg 3 rfl rfl rfl (by kernel_rfl) (by kernel_rfl) rfl rfl tabOk rfl rfl rfl (fun w' hw => c4.fr hw (fun a ha e => by cases ha; simp only at e; omega)) ?_
    have fin : ∀ w8, Fr no w4 w8 → ∀ w9, Blk w9 p6 [.bool D.none, .slice A D.stops.length c, sv D.all, sv D.out, .int .i64 D.met, .bool D.ended] 26 → Fr (fun b => b = p6) w8 w9 → tupV [mM A c D, .bool (decide (D.back = D.back))] = .tuple #[mM A c D, .bool true] ∧ Hd B E w9 x D ∧ Fr (bet B E) w w9 := fun w8 hf8 w9 _ hf9 => by
      refine ⟨?_, (h3.fr0 hf8).fr hf9 (fun b hb e => by have := hb.2; omega), (fresh_set (hf03.tr hf8) (by omega) hf9).mono fun _ _ e => e.elim⟩
      rw [show decide (D.back = D.back) = true from decide_eq_true rfl]; rfl
    refine mix1 rfl rfl ?_ (up hf7)
    refine ev_call rfl rfl rfl (hHeld (h3.fr0 hf7)) (fun r w8 hr => ?_)
    obtain ⟨rfl, rfl⟩ := hr
    refine mix_op ?_
    refine mix1 rfl rfl ?_ (up hf7)
    refine ev_call rfl rfl rfl (refBack A c D _ (hC3.fr0 hf7) (by omega) hst (by omega)) (fun r w9 hr => ?_)
    obtain ⟨rfl, hf9⟩ := hr
    have hf79 := hf7.tr hf9
    refine mix_op ?_
    refine mA rfl (by kernel_rfl) (by kernel_rfl) ?_
    refine mix1 rfl rfl ?_ (up hf79)
    refine ev_storeAgg tabOk rfl rfl rfl rfl rfl rfl (hB6.fr0 hf79) rfl (fun wa hBa hfa => ?_)
    refine mix_op ?_
    refine mA rfl (by kernel_rfl) (by kernel_rfl) ?_
    refine mix_out rfl ?_ (hf79.tr0 hfa)
    refine sA [] rfl ?_
    exact retG tabOk (.inr rfl) rfl [mM A c D, _] ⟨⟨_, rfl, .inl ⟨rfl, _, rfl, rfl, Cs.of_blk hBa⟩⟩, rfl, trivial⟩ (fin _ hf79 _ hBa hfa)
  refine sC [] rfl ?_; refine sD [] rfl ?_
  refine ev_condD rfl (fun g5 => ?_) (fun g5 => ?_)
  · rw [if_pos (.inr (.inr g5))]
    have c4 : Cs w4 (some ⟨p4, 0, none⟩) [.bool D.none, .slice A D.stops.length c, sv D.all, sv D.out, .int .i64 D.met, .bool D.ended] := Cs.of_blk hB4
    have c3 : w4.cell? ⟨p4, 3, none⟩ = some (sv D.out) := hB4.cell rfl
    refine sA [] rfl ?_
    refine mixC_in (fun w' => Fr (fun b => b = p6) w4 w') mixed (fun w7 hf7 => ?_)
    have up : ∀ {w'}, Fr no w4 w' → Fr (fun b => b = p6) w4 w' := fun h => h.mono fun _ _ z => z.elim
    refine mA rfl (by kernel_rfl) (by kernel_rfl) ?_
    refine m_loadAgg 0 rfl rfl rfl (by kernel_rfl) (by kernel_rfl) rfl rfl tabOk rfl rfl rfl (fun w' hw => c4.fr hw (fun a ha e => by cases ha; simp only at e; omega)) ?_
    refine m_load 4 rfl rfl rfl (by kernel_rfl) (by kernel_rfl) rfl rfl tabOk rfl rfl (fun w' hw => cell_fr c3 hw (fun e => by have : p4 = p6 := e; omega)) ?_
    refine mix1 rfl rfl ?_ (up hf7)
    refine ev_call rfl rfl rfl (hText (h3.fr0 hf7)) (fun r w8 hr => ?_)
    obtain ⟨rfl, rfl⟩ := hr
    refine mix_op ?_
    refine mA rfl (by kernel_rfl) (by kernel_rfl) ?_
    refine mix1 rfl rfl ?_ (up hf7)
    refine ev_storeAgg tabOk rfl rfl rfl rfl rfl rfl (hB6.fr0 hf7) rfl (fun wa hBa hfa => ?_)
    refine mix_op ?_
    refine mA rfl (by kernel_rfl) (by kernel_rfl) ?_
    refine mix_out rfl ?_ (hf7.tr0 hfa)
    refine sA [] rfl ?_
    refine retG tabOk (.inr rfl) rfl [mM A c D, _] ⟨⟨_, rfl, .inl ⟨rfl, _, rfl, rfl, Cs.of_blk hBa⟩⟩, rfl, trivial⟩ ⟨?_, (h3.fr0 hf7).fr hfa (fun b hb e => by have := hb.2; omega), (fresh_set (hf03.tr hf7) (by omega) hfa).mono fun _ _ e => e.elim⟩
    rw [show decide (D.out = D.out) = true from decide_eq_true rfl]; rfl
  rw [if_neg (by omega)]
  have c51 : w4.cell? ⟨p5, 1, none⟩ = some (sv piece) := hB5.cell rfl
  refine sA [] rfl ?_; refine ev_loadAggB rfl rfl tabOk rfl rfl ‹_› (by rfl) ?_; refine sA [] rfl ?_; refine ev_load rfl rfl tabOk rfl rfl ‹_› ?_
  refine ev_call rfl rfl rfl (refFeed A c D piece _ hC3 (by omega) hst (by omega) (by omega) (h3.leFeed piece)) (fun r w5 hr => ?_)
  obtain ⟨rfl, hf5⟩ := hr
  have hB4 := hB4.fr0 hf5; have hB5 := hB5.fr0 hf5; have hB6 := hB6.fr0 hf5
  have h5 := h3.fr0 hf5
  have hT5 := hT3.fr0 hf5
  have hf05 := hf03.tr hf5
  have hz5 := hf5.size
  obtain ⟨D', hD'⟩ : ∃ D', D' = D.feed piece := ⟨_, rfl⟩
  rw [← hD']
  clear c51
  refine sA [] rfl ?_
  refine ev_storeAgg tabOk rfl rfl rfl rfl rfl rfl hB4 rfl (fun w6 hB4 hf6 => ?_)
  have hB6 := hB6.fr hf6 (fun e => by omega); have hB5 := hB5.fr hf6 (fun e => by omega)
  have h6 := h5.fr hf6 (fun b hb e => by have := hb.2; omega)
  have hf06 := fresh_set hf05 (show w.heap.size ≤ p4 by omega) hf6
  have hT6 := hT5.fr hf6 (fun e => by omega) (fun e => by omega)
  clear hf5 hf6 hT3 hT5 h3 h5 hf03 hf05
  have c4 : Cs w6 (some ⟨p4, 0, none⟩) [.bool D'.none, .slice A D'.stops.length c, sv D'.all, sv D'.out, .int .i64 D'.met, .bool D'.ended] := Cs.of_blk hB4
  have c51 : w6.cell? ⟨p5, 1, none⟩ = some (sv piece) := hB5.cell rfl
  refine sA [] rfl ?_
  refine mixC_in (fun w' => Fr (fun b => bet B E b ∨ b = p6) w6 w') mixed (fun w7 hf7 => ?_)
  have hf7' : Fr (fun b => bet B E b ∨ b = p6) w6 w7 := hf7.mono fun _ _ z => z.elim
  have hB6 := hB6.fr0 hf7
  refine mA rfl (by kernel_rfl) (by kernel_rfl) ?_
  refine m_loadAgg 0 rfl rfl rfl (by kernel_rfl) (by kernel_rfl) rfl rfl tabOk rfl rfl rfl (fun w' hw => c4.fr hw (fun a ha e => by cases ha; rcases e with e | e <;> simp only at e <;> omega)) ?_
  refine m_load 3 rfl rfl rfl (by kernel_rfl) (by kernel_rfl) rfl rfl tabOk rfl rfl (fun w' hw => cell_fr c51 hw (fun e => by
    rcases e with e | e
    · have : p5 < E := e.2; omega
    · have : p5 = p6 := e; omega)) ?_
  refine mix1 rfl rfl ?_ hf7'
  refine ev_call rfl rfl rfl (hFeed (h6.fr0 hf7) hB (hT6.fr0 hf7) (by omega) piece (by omega)) (fun r w8 hr => ?_)
  obtain ⟨⟨rfl, h8⟩, hf8⟩ := hr
  rw [← hD'] at h8
  have hf78 := hf7'.trans hf8 (fun _ _ e => .inl e)
  have hB6 := hB6.fr hf8 (fun e => by have := e.2; omega)
  refine mix_op ?_
  refine mA rfl (by kernel_rfl) (by kernel_rfl) ?_
  refine mix1 rfl rfl ?_ hf78
  refine ev_storeAgg tabOk rfl rfl rfl rfl rfl rfl hB6 rfl (fun w9 hB9 hf9 => ?_)
  have hf79 := hf78.trans hf9 (fun _ _ e => .inr e)
  have h9 := h8.fr hf9 (fun b hb e => by have := hb.2; omega)
  refine mix_op ?_
  refine mA rfl (by kernel_rfl) (by kernel_rfl) ?_
  refine mix_out rfl ?_ hf79
  refine sA [] rfl ?_
  refine retG tabOk (.inr rfl) rfl [mM A c D', _] ⟨⟨_, rfl, .inl ⟨rfl, _, rfl, rfl, Cs.of_blk hB9⟩⟩, rfl, trivial⟩ ⟨?_, h9, fresh6 (hf06.tr hf7) hf8 (by omega) hf9⟩
  rw [show decide (D.feedO piece = D.feedO piece) = true from decide_eq_true rfl]; rfl
end Go.Wk.YtpnhfkmgnkdleaaDoor
