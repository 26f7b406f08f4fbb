/-
  The walks of chapter 14: a stream's small calls.
-/
import Derived.Test.YtpnhfkmgnkdleaaDoorStF
import Derived.Test.YtpnhfkmgnkdleaaDoorBits
set_option linter.unusedVariables false
namespace Go.Wk.YtpnhfkmgnkdleaaDoor
open Go Go.Wk Go.Proofs Go.Lib

abbrev sv (t : List UInt8) : Value := .string (sOf t)
structure SV where
  stops : List (List UInt8)
  raw : List UInt8
  out : List UInt8
  met : Int
  done : Bool
  ended : Bool
/-- a stream at block p: its stop texts in row v -/
def St (w : World) (p : Nat) (v : Value) (S : SV) : Prop :=
  Blk w p [v, sv S.raw, sv S.out, .int .i64 S.met, .bool S.done, .bool S.ended] 82 ∧ Own w 9 1 v S.stops.length (S.stops.map sv) ∧ v.ownBlock ≠ some p
abbrev one (p : Nat) : Nat → Prop := fun b => b = p
theorem St.fr {S : Nat → Prop} {w w' : World} {p : Nat} {v : Value} {X : SV} (h : St w p v X) (hf : Fr S w w') (h1 : ¬ S p) (h2 : ∀ g, v.ownBlock = some g → ¬ S g) : St w' p v X := ⟨h.1.fr hf h1, h.2.1.fr hf h2, h.2.2⟩
theorem St.fr0 {w w' : World} {p : Nat} {v : Value} {X : SV} (h : St w p v X) (hf : Fr no w w') : St w' p v X := h.fr hf id fun _ _ => id
theorem St.lt {w : World} {p : Nat} {v : Value} {X : SV} (h : St w p v X) : p < w.heap.size := h.1.lt

theorem sText (p : Nat) (v : Value) (S : SV) (w : World) (h : St w p v S) : CallsF Tryd.prog 17 [.pointer (some ⟨p, 0, none⟩)] w fun r w' => r = sv S.out ∧ w' = w := by
  have c2 : w.cell? ⟨p, 2, none⟩ = some (sv S.out) := h.1.cell rfl
  refine callsF Tryd.func17 rfl rfl (by decide) rfl ?_
  refine sA [] rfl ?_; refine ev_load rfl rfl tabOk rfl rfl ‹_› ?_; refine sA [] rfl ?_
  exact ret1 (.inr rfl) rfl rfl ⟨rfl, rfl⟩
theorem nText (w : World) : CallsF Tryd.prog 17 [.pointer none] w fun r w' => r = sv [] ∧ w' = w := by
  refine callsF Tryd.func17 rfl rfl (by decide) rfl ?_
  refine sA [] rfl ?_
  exact ret1 (.inr rfl) rfl rfl ⟨rfl, rfl⟩
theorem sHeld (p : Nat) (v : Value) (S : SV) (w : World) (h : St w p v S) : CallsF Tryd.prog 25 [.pointer (some ⟨p, 0, none⟩)] w fun r w' => r = sv (if S.done || S.ended then [] else S.raw) ∧ w' = w := by
  obtain ⟨stops, raw, out, met, done, ended⟩ := S
  have c1 : w.cell? ⟨p, 1, none⟩ = some (sv raw) := h.1.cell rfl
  have c4 : w.cell? ⟨p, 4, none⟩ = some (.bool done) := h.1.cell rfl
  have c5 : w.cell? ⟨p, 5, none⟩ = some (.bool ended) := h.1.cell rfl
  clear h
  refine callsF Tryd.func25 rfl rfl (by decide) rfl ?_
  cases done <;> cases ended
  all_goals
    repeat (first | refine sA [] rfl ?_ | refine sB [] rfl ?_ | refine sC [] rfl ?_ | refine sD [] rfl ?_ | refine ev_load rfl rfl tabOk rfl rfl ‹_› ?_ | refine ev_loadB rfl rfl tabOk rfl rfl ‹_› (by rfl) ?_ | refine ev_loadAggB rfl rfl tabOk rfl rfl ‹_› (by rfl) ?_ | refine ev_arith rfl rfl rfl rfl rfl (by simp only [lowK, hiK]; omega) ?_ | refine ev_rem rfl rfl rfl rfl (by omega) (by omega) ?_ | refine ev_quo rfl rfl rfl rfl (by omega) (by omega) (by simp only [hiK]; omega) ?_ | refine ev_index rfl rfl tabOk rfl rfl rfl (by omega) (by omega) ?_ | refine ev_indexA rfl rfl tabOk rfl rfl rfl (by omega) (by omega) rfl ?_ | refine ev_convB rfl rfl tabOk rfl rfl rfl rfl ?_ | refine ev_conv rfl rfl tabOk rfl rfl rfl (by simp only [lowK, hiK]; omega) ?_)
    exact ret1 (.inr rfl) rfl rfl ⟨rfl, rfl⟩
theorem nHeld (w : World) : CallsF Tryd.prog 25 [.pointer none] w fun r w' => r = sv [] ∧ w' = w := by
  refine callsF Tryd.func25 rfl rfl (by decide) rfl ?_
  refine sA [] rfl ?_
  exact ret1 (.inr rfl) rfl rfl ⟨rfl, rfl⟩
theorem sStopped (p : Nat) (v : Value) (S : SV) (w : World) (h : St w p v S) : CallsF Tryd.prog 26 [.pointer (some ⟨p, 0, none⟩)] w fun r w' => r = .tuple #[.int .i64 S.met, .bool S.done] ∧ Fr no w w' := by
  have c3 : w.cell? ⟨p, 3, none⟩ = some (.int .i64 S.met) := h.1.cell rfl
  have c4 : w.cell? ⟨p, 4, none⟩ = some (.bool S.done) := h.1.cell rfl
  refine callsF Tryd.func26 rfl rfl (by decide) rfl ?_
  refine sA [] rfl ?_
  refine ev_draw mixed (by kernel_rfl) ?_
  refine qA rfl ?_; refine q_load rfl rfl tabOk rfl rfl (fun _ hf => cell_fr (by assumption) hf id) ?_; refine qA rfl ?_; refine q_load rfl rfl tabOk rfl rfl (fun _ hf => cell_fr (by assumption) hf id) ?_; refine qA rfl ?_
  refine q_end fun w2 hf2 => ?_
  refine sA [] rfl ?_
  exact ret2 (.inr rfl) rfl rfl rfl ⟨rfl, hf2⟩
theorem nStopped (w : World) : CallsF Tryd.prog 26 [.pointer none] w fun r w' => r = .tuple #[.int .i64 0, .bool false] ∧ w' = w := by
  refine callsF Tryd.func26 rfl rfl (by decide) rfl ?_
  refine sA [] rfl ?_
  exact ret2 (.inr rfl) rfl rfl rfl ⟨rfl, rfl⟩

/-- lets n bytes out -/
def SV.lets (S : SV) (n : Nat) : SV := { S with raw := S.raw.drop n, out := S.out ++ clean (S.raw.take n) }
theorem sLet (p : Nat) (v : Value) (S : SV) (n : Nat) (w : World) (h : St w p v S) (hn : n ≤ S.raw.length) (hr : S.raw.length ≤ 10000000000000) (ho : S.out.length ≤ 1000000000000000) (hT : UT w) (hp0 : 1 < p) :
    CallsF Tryd.prog 51 [.pointer (some ⟨p, 0, none⟩), .int .i64 n] w fun r w' => r = sv (clean (S.raw.take n)) ∧ St w' p v (S.lets n) ∧ Fr (one p) w w' := by
  have c1 : w.cell? ⟨p, 1, none⟩ = some (sv S.raw) := h.1.cell rfl
  have hcl := clean_len (S.raw.take n)
  rw [List.length_take] at hcl
  refine callsF Tryd.func51 rfl rfl (by decide) rfl ?_
  refine sA [] rfl ?_; refine ev_load rfl rfl tabOk rfl rfl ‹_› ?_; refine sA [] rfl ?_
  refine ev_sliceStr (i := 0) (j := n) rfl rfl tabOk rfl rfl rfl rfl (by omega) (by omega) (by omega) ?_
  rw [Int.toNat_natCast, show (0 : Int).toNat = 0 from rfl, List.drop_zero]
  refine ev_call rfl rfl rfl (wClean (S.raw.take n) _ (by rw [List.length_take]; omega) hT) (fun q w2 hq => ?_)
  obtain ⟨rfl, hf2⟩ := hq
  have h2 := h.fr0 hf2
  have c1 : w2.cell? ⟨p, 1, none⟩ = some (sv S.raw) := h2.1.cell rfl
  refine sA [] rfl ?_; refine ev_load rfl rfl tabOk rfl rfl ‹_› ?_; refine sA [] rfl ?_
  refine ev_sliceStr rfl rfl tabOk rfl rfl rfl rfl (by omega) (by omega) (by omega) ?_
  rw [show (S.raw.take (S.raw.length : Int).toNat).drop (n : Int).toNat = S.raw.drop n by rw [Int.toNat_natCast, Int.toNat_natCast, List.take_length]]
  refine sA [] rfl ?_
  refine ev_store tabOk rfl rfl rfl rfl rfl rfl h2.1 rfl (fun w3 hb3 hf3 => ?_)
  have c2 : w3.cell? ⟨p, 2, none⟩ = some (sv S.out) := hb3.cell rfl
  refine sA [] rfl ?_; refine ev_load rfl rfl tabOk rfl rfl ‹_› ?_; refine sA [] rfl ?_
  refine ev_concat rfl rfl rfl rfl (by omega) ?_
  refine sA [] rfl ?_
  refine ev_store tabOk rfl rfl rfl rfl rfl rfl hb3 rfl (fun w4 hb4 hf4 => ?_)
  refine sA [] rfl ?_
  exact ret1 (.inr rfl) rfl rfl ⟨rfl, ⟨hb4, (h2.2.1.fr hf3 (fun g hg e => h.2.2 (e ▸ hg))).fr hf4 (fun g hg e => h.2.2 (e ▸ hg)), h.2.2⟩, (hf2.tr0 hf3).trans hf4 (fun _ _ e => e)⟩

/-- the stop text that a text ends with, of the first k: the longest, of those the first -/
def stp (stops : List (List UInt8)) (s : List UInt8) : Nat → Int
  | 0 => -1
  | k + 1 => if endsW s (stops.getD k []) ∧ (stp stops s k < 0 ∨ (stops.getD (stp stops s k).toNat []).length < (stops.getD k []).length) then (k : Int) else stp stops s k
theorem stp_lt (stops : List (List UInt8)) (s : List UInt8) : ∀ k, -1 ≤ stp stops s k ∧ stp stops s k < k ∧ (0 ≤ stp stops s k → endsW s (stops.getD (stp stops s k).toNat []))
  | 0 => ⟨by simp [stp], by simp [stp], fun h => by simp [stp] at h⟩
  | k + 1 => by
    have ih := stp_lt stops s k
    unfold stp
    split
    · rename_i h
      exact ⟨by omega, by omega, fun _ => by rw [Int.toNat_natCast]; exact h.1⟩
    · exact ⟨ih.1, by omega, ih.2.2⟩
abbrev stpA (stops : List (List UInt8)) (s : List UInt8) : Int := stp stops s stops.length

theorem own_str {w : World} {v : Value} {l : List (List UInt8)} (h : Own w 9 1 v l.length (l.map sv)) {j : Nat} (hj : j < l.length) : ∃ g c, v = .slice (some ⟨g, 0, none⟩) l.length c ∧ w.cell? ⟨g, 0 + (j : Int).toNat * 1, none⟩ = some (sv (l.getD j [])) := by
  rcases h.2 with ⟨rfl, h0⟩ | ⟨g, c, cur, rfl, _⟩
  · omega
  · have hx : (l.map sv)[j]? = some (sv (l.getD j [])) := by simp [hj]
    have hc := h.cells (g := g) rfl j _ hx
    rw [Addr.add_lit] at hc
    refine ⟨g, c, rfl, ?_⟩
    rw [Int.toNat_natCast, Nat.mul_one]; exact hc

theorem sStoppedW (p : Nat) (v : Value) (S : SV) (s : List UInt8) (w : World) (h : St w p v S) (hs : s.length ≤ 9223372036854775806) (hst : ∀ t ∈ S.stops, t.length ≤ 9223372036854775806) (hl : S.stops.length ≤ 1000000) :
    CallsF Tryd.prog 50 [.pointer (some ⟨p, 0, none⟩), sv s] w fun r w' => r = .int .i64 (stpA S.stops s) ∧ w' = w := by
  obtain ⟨A, c, rfl, _, _⟩ := h.2.1.slice
  have c0 : w.cell? ⟨p, 0, none⟩ = some (.slice A S.stops.length c) := h.1.cell rfl
  refine callsF Tryd.func50 rfl rfl (by decide) rfl ?_
  refine sA [] rfl ?_; refine ev_load rfl rfl tabOk rfl rfl ‹_› ?_; refine sA [] rfl ?_
  refine ev_loop (α := Nat) (fun k => [(0, .pointer (some ⟨p, 0, none⟩)), (1, sv s), (5, .int .i64 (stp S.stops s k)), (11, .slice A S.stops.length c), (12, .int .i64 S.stops.length), (13, .int .i64 k)])
    (fun k w' => k ≤ S.stops.length ∧ w' = w) (fun k => S.stops.length - k) 0 ⟨rfl, rfl, rfl, rfl, rfl, rfl, trivial⟩ ⟨Nat.zero_le _, rfl⟩ ?_
  rintro k w1 ⟨hk, rfl⟩
  have hsl := stp_lt S.stops s k
  refine sC [] rfl ?_; refine sD [] rfl ?_
  refine ev_condD rfl (fun hlt => ?_) (fun hlt => ?_)
  · have hk1 : k < S.stops.length := by omega
    obtain ⟨g, c', e1, hc⟩ := own_str h.2.1 hk1
    cases e1
    have hx : S.stops.getD k [] ∈ S.stops := by
      rw [List.getD_eq_getElem?_getD, List.getElem?_eq_getElem hk1]; exact List.getElem_mem hk1
    have hxl := hst _ hx
    generalize hxx : S.stops.getD k [] = x at *
    refine sA [] rfl ?_
    refine ev_indexAddr rfl rfl tabOk rfl rfl rfl (by omega) (by omega) ?_
    refine ev_load rfl rfl tabOk rfl rfl ‹_› ?_; refine sA [] rfl ?_
    refine ev_call rfl rfl rfl (hasSuffix s x _ hs hxl) (fun q w2 hq => ?_)
    obtain ⟨rfl, rfl⟩ := hq
    generalize hpp : stp S.stops s k = a at *
    have hstep : stp S.stops s (k + 1) = if endsW s x ∧ (a < 0 ∨ (S.stops.getD a.toNat []).length < x.length) then (k : Int) else a := by rw [stp, hpp, hxx]
    refine sD [] rfl ?_
    have yes : endsW s x ∧ (a < 0 ∨ (S.stops.getD a.toNat []).length < x.length) → stp S.stops s (k + 1) = k := fun h => by rw [hstep, if_pos h]
    have nope : ¬ (endsW s x ∧ (a < 0 ∨ (S.stops.getD a.toNat []).length < x.length)) → stp S.stops s (k + 1) = a := fun h => by rw [hstep, if_neg h]
    refine ev_guardD rfl rfl (fun h1 => ?_) (fun h1 => ?_)
    · refine sD [] rfl ?_; refine sD [] rfl ?_; refine sD [] rfl ?_
      refine ev_guardD rfl rfl (fun h2 => ?_) (fun h2 => ?_)
      · refine sA [] rfl ?_; refine ev_arith rfl rfl rfl rfl rfl (by simp only [lowK, hiK]; omega) ?_; refine sA [] rfl ?_
        exact ev_next (k + 1) (by omega) ⟨by omega, rfl⟩ ⟨rfl, rfl, by rw [yes ⟨h1, .inl h2⟩]; rfl, rfl, rfl, rfl, trivial⟩
      · obtain ⟨m, rfl⟩ := Int.eq_ofNat_of_zero_le (show 0 ≤ a by omega)
        obtain ⟨g2, c2, e2, hc2⟩ := own_str h.2.1 (j := m) (by omega)
        cases e2
        refine sA [] rfl ?_; refine ev_load rfl rfl tabOk rfl rfl ‹_› ?_; refine sA [] rfl ?_
        refine ev_indexAddr rfl rfl tabOk rfl rfl rfl (by omega) (by omega) ?_
        refine ev_load rfl rfl tabOk rfl rfl ‹_› ?_; refine sC [] rfl ?_; refine sD [] rfl ?_
        refine ev_condD rfl (fun h3 => ?_) (fun h3 => ?_)
        · refine sA [] rfl ?_; refine ev_arith rfl rfl rfl rfl rfl (by simp only [lowK, hiK]; omega) ?_; refine sA [] rfl ?_
          exact ev_next (k + 1) (by omega) ⟨by omega, rfl⟩ ⟨rfl, rfl, by rw [yes ⟨h1, .inr (by rw [Int.toNat_natCast]; omega)⟩]; rfl, rfl, rfl, rfl, trivial⟩
        · have hno : ¬ (endsW s x ∧ ((m : Int) < 0 ∨ (S.stops.getD (m : Int).toNat []).length < x.length)) := fun h => by
            rcases h.2 with h | h
            · omega
            · rw [Int.toNat_natCast] at h; omega
          refine sA [] rfl ?_; refine ev_arith rfl rfl rfl rfl rfl (by simp only [lowK, hiK]; omega) ?_; refine sA [] rfl ?_
          exact ev_next (k + 1) (by omega) ⟨by omega, rfl⟩ ⟨rfl, rfl, by rw [nope hno]; rfl, rfl, rfl, rfl, trivial⟩
    · refine sA [] rfl ?_; refine ev_arith rfl rfl rfl rfl rfl (by simp only [lowK, hiK]; omega) ?_; refine sA [] rfl ?_
      exact ev_next (k + 1) (by omega) ⟨by omega, rfl⟩ ⟨rfl, rfl, by rw [nope (fun h => h1 h.1)]; rfl, rfl, rfl, rfl, trivial⟩
  · have hk' : k = S.stops.length := by omega
    subst hk'
    refine sA [] rfl ?_
    exact ret1 (.inr rfl) rfl rfl ⟨rfl, rfl⟩
end Go.Wk.YtpnhfkmgnkdleaaDoor
