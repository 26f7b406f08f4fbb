/-
  The walks of chapter 14: the document's stream.
-/
import Derived.Test.YtpnhfkmgnkdleaaDoorStK
set_option linter.unusedVariables false
namespace Go.Wk.YtpnhfkmgnkdleaaDoor
open Go Go.Wk Go.Proofs Go.Lib

/-- the document's stream -/
structure DV where
  none : Bool
  stops : List (List UInt8)
  all : List UInt8
  out : List UInt8
  met : Int
  ended : Bool
/-- as a value: its stop texts in the row at A -/
abbrev mM (A : Option Addr) (c : Nat) (D : DV) : Value := .agg ⟨[.bool D.none, .slice A D.stops.length c, sv D.all, sv D.out, .int .i64 D.met, .bool D.ended]⟩
def DV.over (D : DV) : Prop := D.none = true ∨ D.ended = true ∨ 0 ≤ D.met
instance (D : DV) : Decidable D.over := by unfold DV.over; infer_instance
def DV.feedT (D : DV) (piece : List UInt8) : List UInt8 :=
  if cutM D.stops (D.all ++ piece) < 0 then (cutT D.stops (D.all ++ piece)).take ((cutT D.stops (D.all ++ piece)).length - (held D.stops (cutT D.stops (D.all ++ piece))).length) else cutT D.stops (D.all ++ piece)
def DV.feedO (D : DV) (piece : List UInt8) : List UInt8 := if D.over then [] else (clean (D.feedT piece)).drop D.out.length
def DV.feed (D : DV) (piece : List UInt8) : DV :=
  if D.over then D else { D with all := D.all ++ piece, met := cutM D.stops (D.all ++ piece), out := D.out ++ (clean (D.feedT piece)).drop D.out.length }
def DV.endO (D : DV) : List UInt8 := if D.over then [] else (clean D.all).drop D.out.length
def DV.end (D : DV) : DV := if D.over then { D with ended := true } else { D with ended := true, out := D.out ++ (clean D.all).drop D.out.length }
def DV.back (D : DV) : List UInt8 := if D.over then [] else held D.stops D.all
/-- made for stop texts -/
def DV.make (stops : List (List UInt8)) : DV := if chk stops = 0 then ⟨false, stops, [], [], -1, false⟩ else ⟨true, [], [], [], -1, false⟩

theorem cutT_le (stops : List (List UInt8)) (s : List UInt8) : (cutT stops s).length ≤ s.length := by
  unfold cutT
  split
  · rw [List.length_take]; omega
  · omega

theorem refNew (A : Option Addr) (c : Nat) (stops : List (List UInt8)) (w : World) (hA : Cs w A (stops.map sv)) (hn : stops.length ≤ 100000000) (hst : ∀ t ∈ stops, t.length ≤ 100000000) :
    CallsF Tryd.prog 42 [.slice A stops.length c] w fun r w' => ∃ A' c', r = .tuple #[mM A' c' (DV.make stops), .int .i64 (chk stops)] ∧ Cs w' A' ((DV.make stops).stops.map sv) ∧ (∀ a, A' = some a → w.heap.size ≤ a.block ∧ a.block < w'.heap.size) ∧ Fr no w w' := by
  refine callsF Tryd.func42 rfl rfl (by decide) rfl ?_
  refine sA [] rfl ?_
  refine ev_alloc rfl rfl inf26 (fun p w1 hp hB hf1 => ?_)
  refine sA [] rfl ?_
  refine ev_call rfl rfl rfl (refCheck A c stops _ (hA.fr0 hf1) hn hst) (fun q w2 hq => ?_)
  obtain ⟨rfl, hf2⟩ := hq
  have hB2 := hB.fr0 hf2
  have hf02 := hf1.tr hf2
  have hs02 := hf02.size
  refine sC [] rfl ?_; refine sD [] rfl ?_; refine sD [] rfl ?_; refine sD [] rfl ?_
  refine ev_condD rfl (fun h0 => ?_) (fun h0 => ?_)
  · have h0 : ¬ chk stops = 0 := fun h => h0 (by rw [h]; rfl)
    have hD : DV.make stops = ⟨true, [], [], [], -1, false⟩ := by unfold DV.make; rw [if_neg h0]
    refine sA [] rfl ?_
    refine ev_build rfl rfl (v := mM none 0 ⟨true, [], [], [], -1, false⟩) rfl (fun w => by kernel_rfl) ?_
    refine sA [] rfl ?_
    refine ev_storeAgg tabOk rfl rfl rfl rfl rfl rfl hB2 rfl (fun w3 hB3 hf3 => ?_)
    refine sA [] rfl ?_
    exact retG tabOk (.inr rfl) rfl [mM none 0 ⟨true, [], [], [], -1, false⟩, .int .i64 (chk stops)] ⟨⟨_, rfl, .inl ⟨rfl, _, rfl, rfl, Cs.of_blk hB3⟩⟩, rfl, trivial⟩ ⟨none, 0, by rw [hD]; rfl, by rw [hD]; exact Cs.nil _ _, (fun a h => by cases h), fresh_set hf02 hp hf3⟩
  · have h0 : chk stops = 0 := by
      have := Decidable.not_not.1 h0
      omega
    have hD : DV.make stops = ⟨false, stops, [], [], -1, false⟩ := by unfold DV.make; rw [if_pos h0]
    refine sA [] rfl ?_
    refine ev_buildSlice tabOk rfl rfl rfl inf9 rfl rfl rfl (by simp) rfl (fun q w3 hq hb3 hf3 => ?_)
    have ho3 := own_of_blk (m := 0) (sz := 1) hb3 rfl (by omega)
    refine sA [] rfl ?_
    refine ev_append tabOk rfl rfl rfl inf9 rfl (by omega) rfl rfl ho3 ((hA.fr0 hf02).fr0 hf3) (by simp) (by intro u hu; simp only [List.mem_map] at hu; obtain ⟨_, _, rfl⟩ := hu; rfl) (by omega) (fun v' w4 ho4 hf4 hne => ?_)
    have hq4 := ho3.lt rfl
    have hf24 : Fr no w2 w4 := hf3.trans hf4 (fun u hu z => by simp only [Value.ownBlock, Option.some.injEq] at z; omega)
    obtain ⟨A', c', rfl, hC', hbl⟩ := ho4.slice
    have hC' : Cs w4 A' (stops.map sv) := hC'
    rw [Nat.zero_add] at *
    have hB4 := hB2.fr0 hf24
    have hpl := hB2.lt
    have hbl' : ∀ a, A' = some a → w2.heap.size ≤ a.block := fun a ha => by
      have h1 := (hbl a ha).1
      rcases hne with h | h
      · rw [h1] at h; simp only [Value.ownBlock, Option.some.injEq] at h; omega
      · rw [h1] at h; simp only [Option.some.injEq] at h; have := hf3.size; omega
    skip
    refine ev_build rfl rfl (v := mM A' c' ⟨false, stops, [], [], -1, false⟩) rfl (fun w => by kernel_rfl) ?_
    skip
    refine ev_storeAgg tabOk rfl rfl rfl rfl rfl rfl hB4 rfl (fun w5 hB5 hf5 => ?_)
    refine sA [] rfl ?_
    exact retG tabOk (.inr rfl) rfl [mM A' c' ⟨false, stops, [], [], -1, false⟩, .int .i64 0] ⟨⟨_, rfl, .inl ⟨rfl, _, rfl, rfl, Cs.of_blk hB5⟩⟩, rfl, trivial⟩ ⟨A', c', by rw [hD, h0]; rfl, by rw [hD]; exact hC'.fr hf5 (fun a ha e => by have := hbl' a ha; have : a.block = p := e; omega), (fun a ha => by have := hbl' a ha; have h1 := ho4.lt (hbl a ha).1; have h2 := hf5.size; omega), fresh_set (hf02.tr hf24) hp hf5⟩

theorem refFeed (A : Option Addr) (c : Nat) (D : DV) (piece : List UInt8) (w : World) (hA : Cs w A (D.stops.map sv)) (hn : D.stops.length ≤ 100000000) (hst : ∀ t ∈ D.stops, t.length ≤ 100000000) (hs : D.all.length + piece.length ≤ 100000000000) (ho : D.out.length ≤ 1000000000000)
    (hle : ¬ D.over → D.out.length ≤ (clean (D.feedT piece)).length) :
    CallsF Tryd.prog 46 [mM A c D, sv piece] w fun r w' => r = .tuple #[mM A c (D.feed piece), sv (D.feedO piece)] ∧ Fr no w w' := by
  refine callsF Tryd.func46 rfl rfl (by decide) rfl ?_
  refine sA [] rfl ?_
  refine ev_box rfl rfl rfl (fun b w1 hb hB hf => ?_)
  refine ev_alloc rfl rfl inf26 (fun r w2 hr hR hf2 => ?_)
  have hB : Blk w1 b [.bool D.none, .slice A D.stops.length c, sv D.all, sv D.out, .int .i64 D.met, .bool D.ended] 26 := hB
  have hB2 := hB.fr0 hf2
  have hf02 := hf.tr hf2
  have hbr : b ≠ r := fun e => by have := hB.lt; omega
  have hrw : w.heap.size ≤ r := by have := hf.size; omega
  clear hB
  have hover : D.over → ∀ w3, Blk w3 r [.bool D.none, .slice A D.stops.length c, sv D.all, sv D.out, .int .i64 D.met, .bool D.ended] 26 → Fr (fun c => c = r) w2 w3 → tupV [mM A c D, sv []] = .tuple #[mM A c (D.feed piece), sv (D.feedO piece)] ∧ Fr no w w3 := fun h w3 _ hf3 => by
    unfold DV.feed DV.feedO; rw [if_pos h, if_pos h]; exact ⟨rfl, fresh_set hf02 hrw hf3⟩
  obtain ⟨none, stops, all, out, met, ended⟩ := D
  cases none with
  | true =>
    refine sA [] rfl ?_; refine ev_loadB rfl rfl tabOk rfl rfl ‹_› (by rfl) ?_; refine sA [] rfl ?_; refine ev_loadAggB rfl rfl tabOk rfl rfl ‹_› (by rfl) ?_
    refine ev_storeAgg tabOk rfl rfl rfl rfl rfl rfl hR rfl (fun w3 hR3 hf3 => ?_)
    refine sA [] rfl ?_
    exact retG tabOk (.inr rfl) rfl [mM A c _, sv []] ⟨⟨_, rfl, .inl ⟨rfl, _, rfl, rfl, Cs.of_blk hR3⟩⟩, rfl, trivial⟩ (hover (.inl rfl) w3 hR3 hf3)
  | false =>
  cases ended with
  | true =>
    refine sA [] rfl ?_; refine ev_loadB rfl rfl tabOk rfl rfl ‹_› (by rfl) ?_; refine sA [] rfl ?_; refine ev_loadB rfl rfl tabOk rfl rfl ‹_› (by rfl) ?_; refine sA [] rfl ?_; refine ev_loadAggB rfl rfl tabOk rfl rfl ‹_› (by rfl) ?_
    refine ev_storeAgg tabOk rfl rfl rfl rfl rfl rfl hR rfl (fun w3 hR3 hf3 => ?_)
    refine sA [] rfl ?_
    exact retG tabOk (.inr rfl) rfl [mM A c _, sv []] ⟨⟨_, rfl, .inl ⟨rfl, _, rfl, rfl, Cs.of_blk hR3⟩⟩, rfl, trivial⟩ (hover (.inr (.inl rfl)) w3 hR3 hf3)
  | false =>
  refine sA [] rfl ?_; refine ev_loadB rfl rfl tabOk rfl rfl ‹_› (by rfl) ?_; refine sA [] rfl ?_; refine ev_loadB rfl rfl tabOk rfl rfl ‹_› (by rfl) ?_; refine sA [] rfl ?_; refine ev_loadB rfl rfl tabOk rfl rfl ‹_› (by rfl) ?_; refine sD [] rfl ?_; refine sD [] rfl ?_; refine sD [] rfl ?_
  refine ev_condD rfl (fun hm => ?_) (fun hm => ?_)
  · refine sA [] rfl ?_; refine ev_loadAggB rfl rfl tabOk rfl rfl ‹_› (by rfl) ?_
    refine ev_storeAgg tabOk rfl rfl rfl rfl rfl rfl hR rfl (fun w3 hR3 hf3 => ?_)
    refine sA [] rfl ?_
    exact retG tabOk (.inr rfl) rfl [mM A c _, sv []] ⟨⟨_, rfl, .inl ⟨rfl, _, rfl, rfl, Cs.of_blk hR3⟩⟩, rfl, trivial⟩ (hover (.inr (.inr hm)) w3 hR3 hf3)
  have hno : ¬ DV.over ⟨false, stops, all, out, met, false⟩ := by
    rintro (h | h | h)
    · cases h
    · cases h
    · exact hm h
  have hle := hle hno
  clear hover
  simp only at hA hn hst hs ho hle
  refine sA [] rfl ?_; refine ev_loadB rfl rfl tabOk rfl rfl ‹_› (by rfl) ?_; refine sA [] rfl ?_
  refine ev_concat rfl rfl rfl rfl (by simp only; omega) ?_
  obtain ⟨s, hS⟩ : ∃ s, s = all ++ piece := ⟨_, rfl⟩
  have hsl : s.length ≤ 100000000000 := by rw [hS, List.length_append]; exact hs
  rw [← hS]
  refine sA [] rfl ?_
  refine ev_store tabOk rfl rfl rfl rfl rfl rfl hB2 rfl (fun w3 hB3 hf3 => ?_)
  have hf03 := fresh_set hf02 hb hf3
  have hR3 := hR.fr hf3 (fun e => hbr e.symm)
  clear hB2
  refine sA [] rfl ?_; refine ev_loadB rfl rfl tabOk rfl rfl ‹_› (by rfl) ?_; refine sA [] rfl ?_; refine ev_loadB rfl rfl tabOk rfl rfl ‹_› (by rfl) ?_
  refine ev_call rfl rfl rfl (refCut A c stops s _ (hA.fr0 hf03) hn hst hsl) (fun q w4 hq => ?_)
  obtain ⟨rfl, rfl⟩ := hq
  have hct := cutT_le stops s
  refine sA [] rfl ?_
  refine ev_store tabOk rfl rfl rfl rfl rfl rfl hB3 rfl (fun w5 hB5 hf5 => ?_)
  have hf05 := fresh_set hf03 hb hf5
  have hR5 := hR3.fr hf5 (fun e => hbr e.symm)
  clear hB3 hR3
  obtain ⟨T, hT⟩ : ∃ T, T = DV.feedT ⟨false, stops, all, out, met, false⟩ piece := ⟨_, rfl⟩
  rw [← hT] at hle
  unfold DV.feedT at hT
  simp only at hT
  rw [← hS] at hT
  refine sC [] rfl ?_; refine sD [] rfl ?_; refine sD [] rfl ?_; refine sD [] rfl ?_
  refine ev_join1 (α := Unit) (fun _ => [(2, .pointer (some ⟨b, 0, Option.none⟩)), (4, .pointer (some ⟨r, 0, Option.none⟩)), (6, sv T)]) (fun _ w' => Fr no w5 w') ?_ ?_
  · refine ev_condD rfl (fun h0 => ?_) (fun h0 => ?_)
    · rw [if_pos h0] at hT
      refine sA [] rfl ?_; refine ev_loadB rfl rfl tabOk rfl rfl ‹_› (by rfl) ?_; refine sA [] rfl ?_
      refine ev_call rfl rfl rfl (refHeld A c stops (cutT stops s) _ (hA.fr0 hf05) hn hst (by omega)) (fun q w6 hq => ?_)
      obtain ⟨rfl, hf6⟩ := hq
      have hhl : (held stops (cutT stops s)).length ≤ (cutT stops s).length := by unfold held; rw [List.length_drop]; omega
      refine sA [] rfl ?_; refine ev_arith rfl rfl rfl rfl rfl (by simp only [lowK, hiK]; omega) ?_
      refine ev_sliceStr (s := cutT stops s) (i := 0) rfl rfl tabOk rfl rfl rfl rfl (by omega) (by omega) (by omega) ?_
      rw [show (((cutT stops s).length : Int) - ((held stops (cutT stops s)).length : Int)).toNat = (cutT stops s).length - (held stops (cutT stops s)).length by omega, show (0 : Int).toNat = 0 from rfl, List.drop_zero, ← hT]
      refine sA [] rfl ?_
      exact ev_out () hf6 ⟨rfl, rfl, rfl, trivial⟩
    · rw [if_neg h0] at hT
      rw [← hT]
      refine sA [] rfl ?_
      exact ev_out () (Fr.refl _ _) ⟨rfl, rfl, rfl, trivial⟩
  rintro _ w6 hf6
  have hTl : T.length ≤ 100000000000 := by
    rw [hT]
    split
    · rw [List.length_take]; omega
    · omega
  have hcl := clean_len T
  have hB6 := hB5.fr0 hf6
  have hR6 := hR5.fr0 hf6
  have c3 : w6.cell? ⟨b, 3, Option.none⟩ = some (sv out) := hB6.cell rfl
  refine sA [] rfl ?_
  refine ev_draw mixed (by kernel_rfl) ?_
  refine qA rfl ?_
  refine q_call rfl rfl rfl (fun w' hw' => (refClean T w' (by omega)).mono fun u w'' z => ⟨z.1, hw'.tr z.2⟩) ?_
  refine qA rfl ?_; refine q_load rfl rfl tabOk rfl rfl (fun _ hf => cell_fr (by assumption) hf id) ?_; refine qA rfl ?_
  refine q_sliceStr (s := clean T) (i := out.length) (j := (clean T).length) rfl rfl tabOk rfl rfl rfl rfl (by omega) (by omega) (by omega) ?_
  rw [Int.toNat_natCast, Int.toNat_natCast, List.take_length]
  refine qA rfl ?_
  refine q_end fun w7 hf7 => ?_
  clear c3
  have hB7 := hB6.fr0 hf7
  have hR7 := hR6.fr0 hf7
  have c3 : w7.cell? ⟨b, 3, Option.none⟩ = some (sv out) := hB7.cell rfl
  refine sA [] rfl ?_; refine ev_load rfl rfl tabOk rfl rfl ‹_› ?_; refine sA [] rfl ?_
  refine ev_concat rfl rfl rfl rfl (by rw [List.length_drop]; omega) ?_
  refine sA [] rfl ?_
  refine ev_store tabOk rfl rfl rfl rfl rfl rfl hB7 rfl (fun w8 hB8 hf8 => ?_)
  have hR8 := hR7.fr hf8 (fun e => hbr e.symm)
  clear c3 hB7 hB6 hB5
  refine sA [] rfl ?_; refine ev_loadAggB rfl rfl tabOk rfl rfl ‹_› (by rfl) ?_; refine sA [] rfl ?_
  refine ev_storeAgg tabOk rfl rfl rfl rfl rfl rfl hR8 rfl (fun w9 hR9 hf9 => ?_)
  refine sA [] rfl ?_
  refine retG tabOk (.inr rfl) rfl [mM A c (DV.feed ⟨false, stops, all, out, met, false⟩ piece), sv (DV.feedO ⟨false, stops, all, out, met, false⟩ piece)] ⟨⟨_, rfl, .inl ⟨rfl, _, rfl, rfl, ?_⟩⟩, ?_, trivial⟩ ⟨rfl, fresh_set (fresh_set ((hf05.tr hf6).tr hf7) hb hf8) hrw hf9⟩
  · have : DV.feedT ⟨false, stops, all, out, met, false⟩ piece = T := by rw [hT]; unfold DV.feedT; rw [hS]
    unfold DV.feed
    rw [if_neg hno, this, ← hS]
    exact Cs.of_blk hR9
  · have : DV.feedT ⟨false, stops, all, out, met, false⟩ piece = T := by rw [hT]; unfold DV.feedT; rw [hS]
    unfold DV.feedO
    rw [if_neg hno, this]; rfl
end Go.Wk.YtpnhfkmgnkdleaaDoor
