/-
  The walks of chapter 14: every call on a stream; two streams in turns.
-/
import Derived.Test.YtpnhfkmgnkdleaaDoorStT
set_option linter.unusedVariables false
namespace Go.Wk.YtpnhfkmgnkdleaaDoor
open Go Go.Wk Go.Proofs Go.Lib

/-- a script in memory -/
def OpsS (w : World) (A : Option Addr) (ops : List (Int × List UInt8)) : Prop :=
  ∀ i x, ops[i]? = some x → (-9223372036854775808 ≤ x.1 ∧ x.1 ≤ 9223372036854775807) ∧ ∃ b o, A = some ⟨b, o, none⟩ ∧ Cs w (some ⟨b, o + i * 2, none⟩) [.int .i64 x.1, sv x.2]
theorem OpsS.fr0 {w w' : World} {A : Option Addr} {ops : List (Int × List UInt8)} (h : OpsS w A ops) (hf : Fr no w w') : OpsS w' A ops := fun i x hx => by
  obtain ⟨h1, b, o, h2, h3⟩ := h i x hx
  exact ⟨h1, b, o, h2, h3.fr0 hf⟩
def volS (ops : List (Int × List UInt8)) : Nat := (ops.map fun x => x.2.length + 2).sum
theorem volS_drop {ops : List (Int × List UInt8)} {k : Nat} {x : Int × List UInt8} (h : ops[k]? = some x) : volS (ops.drop k) = x.2.length + 2 + volS (ops.drop (k + 1)) := by
  obtain ⟨h1, rfl⟩ := List.getElem?_eq_some_iff.1 h
  unfold volS
  rw [List.drop_eq_getElem_cons h1, List.map_cons, List.sum_cons]
theorem volS_ge (ops : List (Int × List UInt8)) : 2 * ops.length ≤ volS ops := by
  induction ops with
  | nil => simp [volS]
  | cons x l ih => simp only [volS, List.map_cons, List.sum_cons, List.length_cons] at *; omega

theorem make_all (stops : List (List UInt8)) : (DV.make stops).all = [] := by unfold DV.make; split <;> rfl
theorem lawPlays (A0 : Option Addr) (c0 : Nat) (stops : List (List UInt8)) (A1 : Option Addr) (c1 : Nat) (ops : List (Int × List UInt8)) (W : World) (hA : Cs W A0 (stops.map sv)) (hO : OpsS W A1 ops) (hn : stops.length ≤ 100000000) (hst : ∀ t ∈ stops, t.length ≤ 100000000) (hv : volS ops ≤ 5000000) (hT : UT W) :
    CallsF Tryd.prog 3 [.slice A0 stops.length c0, .slice A1 ops.length c1] W fun r w' => r = .bool true ∧ Fr no W w' := by
  have hT1 := hT.lt
  have hvl := volS_ge ops
  refine callsF Tryd.func3 rfl rfl (by decide) rfl ?_
  refine sA [] rfl ?_
  refine ev_call rfl rfl rfl (lawBegun A0 c0 stops _ hA hn hst hT) (fun r w1 hr => ?_)
  obtain ⟨⟨x, A, c, E, rfl, hH, hC, hAb, hE1, hE2⟩, hf1⟩ := hr
  have hall := make_all stops
  generalize DV.make stops = D0 at *
  refine sA [] rfl ?_
  refine ev_alloc rfl rfl inf26 (fun m w2 hm hB2 hf2 => ?_)
  refine sA [] rfl ?_
  refine ev_storeAgg tabOk rfl rfl rfl rfl rfl rfl hB2 rfl (fun w3 hB3 hf3 => ?_)
  have hf13 := fresh_set hf2 hm hf3
  have hf03 := hf1.tr hf13
  have hml := hB3.lt
  have hs1 := hf1.size
  refine sA [] rfl ?_
  refine ev_call rfl rfl rfl (lawAwake _ (hT.fr0 hf03)) (fun r w4 hr => ?_)
  obtain ⟨rfl, hf4⟩ := hr
  have hf14 := hf13.tr hf4
  refine sA [] rfl ?_
  refine ev_loop (α := Nat × DV) (fun y => [(5, x), (6, .pointer (some ⟨m, 0, none⟩)), (22, .slice A1 ops.length c1), (23, .int .i64 ops.length), (24, .int .i64 y.1)])
    (fun y w' => y.1 ≤ ops.length ∧ Blk w' m [.bool y.2.none, .slice A y.2.stops.length c, sv y.2.all, sv y.2.out, .int .i64 y.2.met, .bool y.2.ended] 26 ∧ Hd W.heap.size E w' x y.2 ∧ Cs w' A (y.2.stops.map sv) ∧ y.2.all.length + volS (ops.drop y.1) ≤ volS ops ∧ Fr no W w')
    (fun y => ops.length - y.1) (0, D0) ⟨rfl, rfl, rfl, rfl, rfl, trivial⟩ ⟨Nat.zero_le _, hB3.fr0 hf4, hH.fr0 hf14, hC.fr0 hf14, by simp [hall], hf03.tr hf4⟩ ?_
  clear hH hC hB3 hB2 hall
  rintro ⟨k, D⟩ w5 ⟨hk, hB, hH, hC, hvk, hf⟩
  simp only at hk hB hH hC hvk
  have hs5 := hf.size
  have hml5 := hB.lt
  refine sC [] rfl ?_; refine sD [] rfl ?_
  refine ev_condD rfl (fun hlt => ?_) (fun hlt => ?_)
  · simp only at hlt
    have hk1 : k < ops.length := by omega
    obtain ⟨⟨kd, piece⟩, hx⟩ : ∃ y, ops[k]? = some y := ⟨_, List.getElem?_eq_getElem hk1⟩
    obtain ⟨⟨z1, z2⟩, b, o, rfl, hcs⟩ := (hO.fr0 hf) k _ hx
    have hvd := volS_drop hx
    simp only at z1 z2 hcs hvd
    refine sA [] rfl ?_
    refine ev_indexAddr (len := ops.length) (i := k) rfl rfl tabOk rfl rfl rfl (by omega) (by omega) ?_
    rw [Int.toNat_natCast]
    refine ev_loadAgg rfl rfl tabOk rfl rfl rfl hcs ?_
    refine ev_alloc rfl rfl inf31 (fun p w6 hp hP hf6 => ?_)
    refine ev_storeAgg tabOk rfl rfl rfl rfl rfl rfl hP rfl (fun w7 hP7 hf7 => ?_)
    have hf57 := fresh_set hf6 hp hf7
    have hB7 := hB.fr0 hf57
    have hf07 := hf.tr hf57
    have hs7 := hf57.size
    have hs17 := hf14.size
    refine sA [] rfl ?_; refine ev_loadAggB rfl rfl tabOk rfl rfl ‹_› (by rfl) ?_; refine ev_loadAggB rfl rfl tabOk rfl rfl ‹_› (by rfl) ?_
    refine ev_call rfl rfl rfl (lawStep W.heap.size E x A c D kd piece _ (hH.fr0 hf57) (hC.fr0 hf57) (fun a ha e => by have := (hAb a ha).1; have := e.2; omega) hT1 (by omega) (hT.fr0 hf07) (by omega) (by omega) z1 z2) (fun r w8 hr => ?_)
    obtain ⟨rfl, hH8, hf8⟩ := hr
    have hst8 := step_stops D kd piece
    have hf08 : Fr no W w8 := hf07.trans hf8 (fun q hq e => by have := e.1; omega)
    have hB8 := hB7.fr hf8 (fun e => by have := e.2; omega)
    have hC8 := (hC.fr0 hf57).fr hf8 (fun a ha e => by have := (hAb a ha).1; have := e.2; omega)
    have hml7 : E ≤ m := by omega
    generalize D.step kd piece = D' at *
    refine sA [] rfl ?_
    refine ev_storeAgg tabOk rfl rfl rfl rfl rfl rfl hB8 rfl (fun w9 hB9 hf9 => ?_)
    rw [← hst8.1] at hC8
    refine sA [] rfl ?_; refine ev_arith rfl rfl rfl rfl rfl (by simp only [lowK, hiK]; omega) ?_; refine sA [] rfl ?_
    exact ev_next (k + 1, D') (by simp only; omega) ⟨by simp only; omega, hB9, hH8.fr hf9 (fun q hq e => by have := hq.2; omega), hC8.fr hf9 (fun a ha e => by have := (hAb a ha).2; omega), by simp only; omega, fresh_set hf08 (by omega) hf9⟩ ⟨rfl, rfl, rfl, rfl, rfl, trivial⟩
  · have c3 : w5.cell? ⟨m, 3, none⟩ = some (sv D.out) := hB.cell rfl
    refine sA [] rfl ?_
    refine ev_draw mixed (by kernel_rfl) ?_
    refine qA rfl ?_
    refine q_call rfl rfl rfl (fun w' hw' => (hText (hH.fr0 hw')).mono fun u w'' z => ⟨z.1, z.2 ▸ hw'⟩) ?_
    refine qA rfl ?_; refine q_load rfl rfl tabOk rfl rfl (fun _ hf => cell_fr (by assumption) hf id) ?_; refine qA rfl ?_
    refine q_end fun w6 hf6 => ?_
    refine sA [] rfl ?_
    exact ret1 (.inr rfl) rfl rfl ⟨by rw [show decide (D.out = D.out) = true from decide_eq_true rfl], hf.tr hf6⟩

theorem lawTwo (A0 : Option Addr) (c0 : Nat) (stops : List (List UInt8)) (A2 : Option Addr) (c2 : Nat) (stops2 : List (List UInt8)) (A1 : Option Addr) (c1 : Nat) (ops : List (Int × List UInt8)) (W : World) (hA : Cs W A0 (stops.map sv)) (hA2 : Cs W A2 (stops2.map sv)) (hO : OpsS W A1 ops) (hn : stops.length ≤ 100000000) (hst : ∀ t ∈ stops, t.length ≤ 100000000) (hn2 : stops2.length ≤ 100000000) (hst2 : ∀ t ∈ stops2, t.length ≤ 100000000) (hv : volS ops ≤ 5000000) (hT : UT W) :
    CallsF Tryd.prog 4 [.slice A0 stops.length c0, .slice A2 stops2.length c2, .slice A1 ops.length c1] W fun r w' => r = .bool true ∧ Fr no W w' := by
  have hT1 := hT.lt
  have hvl := volS_ge ops
  refine callsF Tryd.func4 rfl rfl (by decide) rfl ?_
  refine sA [] rfl ?_
  refine ev_call rfl rfl rfl (lawBegun A0 c0 stops _ hA hn hst hT) (fun r w1 hr => ?_)
  obtain ⟨⟨x, A, c, E, rfl, hH, hC, hAb, hE1, hE2⟩, hf1⟩ := hr
  have hall := make_all stops
  generalize DV.make stops = D0 at *
  refine sA [] rfl ?_
  refine ev_alloc rfl rfl inf26 (fun m w2 hm hB2 hf2 => ?_)
  refine sA [] rfl ?_
  refine ev_storeAgg tabOk rfl rfl rfl rfl rfl rfl hB2 rfl (fun w3 hB3 hf3 => ?_)
  have hf13 := fresh_set hf2 hm hf3
  have hf03 := hf1.tr hf13
  have hml := hB3.lt
  have hs1 := hf1.size
  have hs13 := hf13.size
  refine sA [] rfl ?_
  refine ev_call rfl rfl rfl (lawBegun A2 c2 stops2 _ (hA2.fr0 hf03) hn2 hst2 (hT.fr0 hf03)) (fun r w4 hr => ?_)
  obtain ⟨⟨x', A', c', E', rfl, hH', hC', hAb', hE1', hE2'⟩, hf4⟩ := hr
  have hall' := make_all stops2
  generalize DV.make stops2 = D0' at *
  refine sA [] rfl ?_
  refine ev_alloc rfl rfl inf26 (fun m' w5 hm' hB5 hf5 => ?_)
  refine sA [] rfl ?_
  refine ev_storeAgg tabOk rfl rfl rfl rfl rfl rfl hB5 rfl (fun w6 hB6 hf6 => ?_)
  have hf46 := fresh_set hf5 hm' hf6
  have hml' := hB6.lt
  have hs4 := hf4.size
  have hs46 := hf46.size
  have hf06 := (hf03.tr hf4).tr hf46
  refine sA [] rfl ?_
  refine ev_call rfl rfl rfl (lawAwake _ (hT.fr0 hf06)) (fun r w7 hr => ?_)
  obtain ⟨rfl, hf7⟩ := hr
  have hf47 := hf46.tr hf7
  have hf17 := (hf13.tr hf4).tr hf47
  have hs67 := hf7.size
  obtain ⟨B', hB'⟩ : ∃ B', B' = w3.heap.size := ⟨_, rfl⟩
  rw [← hB'] at hH' hE1'
  refine sA [] rfl ?_
  refine ev_loop (α := Nat × DV × DV) (fun y => [(7, x), (8, .pointer (some ⟨m, 0, none⟩)), (10, x'), (11, .pointer (some ⟨m', 0, none⟩)), (37, .slice A1 ops.length c1), (38, .int .i64 ops.length), (39, .int .i64 y.1)])
    (fun y w' => y.1 ≤ ops.length ∧ Blk w' m [.bool y.2.1.none, .slice A y.2.1.stops.length c, sv y.2.1.all, sv y.2.1.out, .int .i64 y.2.1.met, .bool y.2.1.ended] 26 ∧ Hd W.heap.size E w' x y.2.1 ∧ Cs w' A (y.2.1.stops.map sv) ∧
      Blk w' m' [.bool y.2.2.none, .slice A' y.2.2.stops.length c', sv y.2.2.all, sv y.2.2.out, .int .i64 y.2.2.met, .bool y.2.2.ended] 26 ∧ Hd B' E' w' x' y.2.2 ∧ Cs w' A' (y.2.2.stops.map sv) ∧ y.2.1.all.length + volS (ops.drop y.1) ≤ volS ops ∧ y.2.2.all.length + volS (ops.drop y.1) ≤ volS ops ∧ w7.heap.size ≤ w'.heap.size ∧ Fr no W w')
    (fun y => ops.length - y.1) (0, D0, D0') ⟨rfl, rfl, rfl, rfl, rfl, rfl, rfl, trivial⟩ ⟨Nat.zero_le _, ((hB3.fr0 hf4).fr0 hf46).fr0 hf7, hH.fr0 hf17, hC.fr0 hf17, hB6.fr0 hf7, hH'.fr0 hf47, hC'.fr0 hf47, by simp [hall], by simp [hall'], Nat.le_refl _, hf06.tr hf7⟩ ?_
  clear hH hC hB3 hB2 hall hH' hC' hB5 hB6 hall'
  rintro ⟨k, D, D'⟩ w8 ⟨hk, hB, hH, hC, hB', hH', hC', hvk, hvk', hs78, hf⟩
  simp only at hk hB hH hC hB' hH' hC' hvk hvk'
  refine sC [] rfl ?_; refine sD [] rfl ?_
  refine ev_condD rfl (fun hlt => ?_) (fun hlt => ?_)
  · simp only at hlt
    have hk1 : k < ops.length := by omega
    obtain ⟨⟨kd, piece⟩, hx⟩ : ∃ y, ops[k]? = some y := ⟨_, List.getElem?_eq_getElem hk1⟩
    obtain ⟨⟨z1, z2⟩, b, o, rfl, hcs⟩ := (hO.fr0 hf) k _ hx
    have hvd := volS_drop hx
    simp only at z1 z2 hcs hvd
    refine sA [] rfl ?_
    refine ev_indexAddr (len := ops.length) (i := k) rfl rfl tabOk rfl rfl rfl (by omega) (by omega) ?_
    rw [Int.toNat_natCast]
    refine ev_loadAgg rfl rfl tabOk rfl rfl rfl hcs ?_
    refine ev_alloc rfl rfl inf31 (fun p wa hp hP hfa => ?_)
    refine sA [] rfl ?_
    refine ev_storeAgg tabOk rfl rfl rfl rfl rfl rfl hP rfl (fun wb hPb hfb => ?_)
    have hf8b := fresh_set hfa hp hfb
    have hBb := hB.fr0 hf8b; have hBb' := hB'.fr0 hf8b
    have hHb := hH.fr0 hf8b; have hHb' := hH'.fr0 hf8b
    have hCb := hC.fr0 hf8b; have hCb' := hC'.fr0 hf8b
    have hf0b := hf.tr hf8b
    have hsb := hf8b.size
    clear hB hB' hH hH' hC hC' hP
    refine sA [] rfl ?_; refine ev_rem rfl rfl rfl rfl (by omega) (by omega) ?_; refine sD [] rfl ?_; refine sD [] rfl ?_
    refine ev_condD rfl (fun h0 => ?_) (fun h0 => ?_)
    · refine sA [] rfl ?_; refine ev_loadAggB rfl rfl tabOk rfl rfl ‹_› (by rfl) ?_; refine ev_loadAggB rfl rfl tabOk rfl rfl ‹_› (by rfl) ?_
      refine ev_call rfl rfl rfl (lawStep W.heap.size E x A c D kd piece _ hHb hCb (fun a ha e => by have := (hAb a ha).1; have := e.2; omega) hT1 (by omega) (hT.fr0 hf0b) (by omega) (by omega) z1 z2) (fun r wc hr => ?_)
      obtain ⟨rfl, hHc, hfc⟩ := hr
      have hst8 := step_stops D kd piece
      have hf0c : Fr no W wc := hf0b.trans hfc (fun q hq e => by have := e.1; omega)
      have hBc := hBb.fr hfc (fun e => by have := e.2; omega)
      have hBc' := hBb'.fr hfc (fun e => by have := e.2; omega)
      have hHc' := hHb'.fr hfc (fun q hq e => by have := e.2; have := hq.1; omega)
      have hCc := hCb.fr hfc (fun a ha e => by have := (hAb a ha).1; have := e.2; omega)
      have hCc' := hCb'.fr hfc (fun a ha e => by have := (hAb' a ha).1; have := e.2; omega)
      have hsc := hfc.size
      generalize D.step kd piece = D2 at *
      refine sA [] rfl ?_
      refine ev_storeAgg tabOk rfl rfl rfl rfl rfl rfl hBc rfl (fun wd hBd hfd => ?_)
      rw [← hst8.1] at hCc
      have hsd := hfd.size
      refine sA [] rfl ?_; refine ev_arith rfl rfl rfl rfl rfl (by simp only [lowK, hiK]; omega) ?_; refine sA [] rfl ?_
      exact ev_next (k + 1, D2, D') (by simp only; omega) ⟨by simp only; omega, hBd, hHc.fr hfd (fun q hq e => by have := hq.2; omega), hCc.fr hfd (fun a ha e => by have := (hAb a ha).2; omega), hBc'.fr hfd (fun e => by omega), hHc'.fr hfd (fun q hq e => by have := hq.1; omega), hCc'.fr hfd (fun a ha e => by have := (hAb' a ha).1; omega), by simp only; omega, by simp only; omega, by omega, fresh_set hf0c (by omega) hfd⟩ ⟨rfl, rfl, rfl, rfl, rfl, rfl, rfl, trivial⟩
    · refine sA [] rfl ?_; refine ev_loadAggB rfl rfl tabOk rfl rfl ‹_› (by rfl) ?_; refine ev_loadAggB rfl rfl tabOk rfl rfl ‹_› (by rfl) ?_
      refine ev_call rfl rfl rfl (lawStep B' E' x' A' c' D' kd piece _ hHb' hCb' (fun a ha e => by have := (hAb' a ha).1; have := e.2; omega) (by omega) (by omega) (hT.fr0 hf0b) (by omega) (by omega) z1 z2) (fun r wc hr => ?_)
      obtain ⟨rfl, hHc', hfc⟩ := hr
      have hst8 := step_stops D' kd piece
      have hf0c : Fr no W wc := hf0b.trans hfc (fun q hq e => by have := e.1; omega)
      have hBc := hBb.fr hfc (fun e => by have := e.1; omega)
      have hBc' := hBb'.fr hfc (fun e => by have := e.2; omega)
      have hHc := hHb.fr hfc (fun q hq e => by have := e.1; have := hq.2; omega)
      have hCc := hCb.fr hfc (fun a ha e => by have := (hAb a ha).2; have := e.1; omega)
      have hCc' := hCb'.fr hfc (fun a ha e => by have := (hAb' a ha).1; have := e.2; omega)
      have hsc := hfc.size
      generalize D'.step kd piece = D2 at *
      refine sA [] rfl ?_
      refine ev_storeAgg tabOk rfl rfl rfl rfl rfl rfl hBc' rfl (fun wd hBd hfd => ?_)
      rw [← hst8.1] at hCc'
      have hsd := hfd.size
      refine sA [] rfl ?_; refine ev_arith rfl rfl rfl rfl rfl (by simp only [lowK, hiK]; omega) ?_; refine sA [] rfl ?_
      exact ev_next (k + 1, D, D2) (by simp only; omega) ⟨by simp only; omega, hBc.fr hfd (fun e => by omega), hHc.fr hfd (fun q hq e => by have := hq.2; omega), hCc.fr hfd (fun a ha e => by have := (hAb a ha).2; omega), hBd, hHc'.fr hfd (fun q hq e => by have := hq.2; omega), hCc'.fr hfd (fun a ha e => by have := (hAb' a ha).2; omega), by simp only; omega, by simp only; omega, by omega, fresh_set hf0c (by omega) hfd⟩ ⟨rfl, rfl, rfl, rfl, rfl, rfl, rfl, trivial⟩
  · have c3 : w8.cell? ⟨m, 3, none⟩ = some (sv D.out) := hB.cell rfl
    have c3' : w8.cell? ⟨m', 3, none⟩ = some (sv D'.out) := hB'.cell rfl
    refine sA [] rfl ?_
    refine ev_draw mixed (by kernel_rfl) ?_
    refine qA rfl ?_
    refine q_call rfl rfl rfl (fun w' hw' => (hText (hH.fr0 hw')).mono fun u w'' z => ⟨z.1, z.2 ▸ hw'⟩) ?_
    refine qA rfl ?_; refine q_load rfl rfl tabOk rfl rfl (fun _ hf => cell_fr (by assumption) hf id) ?_; refine qD rfl ?_; refine qD rfl ?_
    refine q_splitD 69 rfl (fun _ => ?_) (fun z => absurd rfl z)
    refine qA rfl ?_
    refine q_call rfl rfl rfl (fun w' hw' => (hText (hH'.fr0 hw')).mono fun u w'' z => ⟨z.1, z.2 ▸ hw'⟩) ?_
    refine qA rfl ?_; refine q_load rfl rfl tabOk rfl rfl (fun _ hf => cell_fr (by assumption) hf id) ?_; refine qA rfl ?_
    refine q_end fun w6 hf6 => ?_
    refine sA [] rfl ?_
    exact ret1 (.inr rfl) rfl rfl ⟨by rw [show decide (D'.out = D'.out) = true from decide_eq_true rfl], hf.tr hf6⟩
end Go.Wk.YtpnhfkmgnkdleaaDoor
