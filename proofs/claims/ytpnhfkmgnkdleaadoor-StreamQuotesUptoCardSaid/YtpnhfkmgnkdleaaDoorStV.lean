/-
  Chapter 14: the shapes of the arguments, and their bulk.
-/
import Derived.Test.YtpnhfkmgnkdleaaDoorStLaid
import Derived.Test.YtpnhfkmgnkdleaaDoorVol
set_option linter.unusedVariables false
namespace Go.Wk.YtpnhfkmgnkdleaaDoor
open Go Go.Wk Go.Proofs Go.Proofs.YtpnhfkmgnkdleaaDoor

theorem strs_fit : fit Tryd.prog (.sl .str) 22 [] 0 = true := by kernel_rfl
theorem see_strs {w : World} {cs : List Value} {l : List (List UInt8)} (h : See w (.sl .str) cs l) : ∃ A cap, cs = [.slice A l.length cap] ∧ l.length ≤ cap ∧ Cs w A (l.map sv) := by
  obtain ⟨A, cap, rfl, h1, h2, h3⟩ := h
  refine ⟨A, cap, rfl, h1, fun j u hj => ?_⟩
  rw [List.getElem?_map, Option.map_eq_some_iff] at hj
  obtain ⟨x, hx, rfl⟩ := hj
  obtain ⟨b, o, xs, rfl, hl, hc, hs⟩ := h3 j x hx
  have hs : xs = [.string (sOf x)] := hs
  subst hs
  refine ⟨b, o, rfl, ?_⟩
  have := hc 0 _ rfl
  simpa [Sh.sz] using this
theorem ints_fit : fit Tryd.prog (.sl (.int .i64)) 45 [] 0 = true := by kernel_rfl
theorem see_ints {w : World} {cs : List Value} {l : List Int} (h : See w (.sl (.int .i64)) cs l) : ∃ A cap, cs = [.slice A l.length cap] ∧ l.length ≤ cap ∧ Cs w A (l.map fun n => .int .i64 n) ∧ ∀ n ∈ l, -9223372036854775808 ≤ n ∧ n ≤ 9223372036854775807 := by
  obtain ⟨A, cap, rfl, h1, h2, h3⟩ := h
  refine ⟨A, cap, rfl, h1, fun j u hj => ?_, fun n hn => ?_⟩
  · rw [List.getElem?_map, Option.map_eq_some_iff] at hj
    obtain ⟨x, hx, rfl⟩ := hj
    obtain ⟨b, o, xs, rfl, hl, hc, hs⟩ := h3 j x hx
    obtain ⟨rfl, _⟩ := hs
    refine ⟨b, o, rfl, ?_⟩
    have := hc 0 _ rfl
    simpa [Sh.sz] using this
  · obtain ⟨j, hj, rfl⟩ := List.getElem_of_mem hn
    obtain ⟨b, o, xs, _, _, _, _, hw⟩ := h3 j _ (List.getElem?_eq_getElem hj)
    exact lit_i64 hw
def sopS : Sh := .st (.pr (.int .i64) (.pr .str .un))
def sopsS : Sh := .sl sopS
theorem sops_fit : fit Tryd.prog sopsS 23 [] 0 = true := by kernel_rfl
def sopOf (x : sopS.D) : Int × List UInt8 := (x.1, x.2.1)
theorem see_sops {w : World} {cs : List Value} {l : List sopS.D} (h : See w sopsS cs l) : ∃ A cap, cs = [.slice A (l.map sopOf).length cap] ∧ (l.map sopOf).length ≤ cap ∧ OpsS w A (l.map sopOf) := by
  obtain ⟨A, cap, rfl, h1, h2, h3⟩ := h
  refine ⟨A, cap, by rw [List.length_map], by rw [List.length_map]; exact h1, fun i x hx => ?_⟩
  rw [List.getElem?_map, Option.map_eq_some_iff] at hx
  obtain ⟨⟨k, s, u⟩, hy, rfl⟩ := hx
  obtain ⟨b, o, xs, rfl, hl, hc, hs⟩ := h3 i _ hy
  obtain ⟨c1, r1, rfl, ⟨rfl, z1⟩, c2, r2, rfl, h5, h6⟩ := hs
  have h5 : c2 = [.string (sOf s)] := h5
  have h6 : r2 = [] := h6
  subst h5; subst h6
  exact ⟨lit_i64 z1, b, o, rfl, fun j u hj => ⟨b, o + i * 2, rfl, hc j u hj⟩⟩

def volT (l : List (List UInt8)) : Nat := (l.map fun t => t.length + 1).sum
theorem volT_ge : ∀ l : List (List UInt8), l.length ≤ volT l ∧ ∀ t ∈ l, t.length ≤ volT l
  | [] => ⟨by simp, fun t h => by simp at h⟩
  | u :: l => by
    have ih := volT_ge l
    simp only [volT, List.map_cons, List.sum_cons, List.length_cons] at ih ⊢
    refine ⟨by omega, fun t ht => ?_⟩
    rcases List.mem_cons.1 ht with rfl | ht
    · omega
    · have := ih.2 t ht; omega
theorem strs_small {H : Type} {x : (Sh.sl .str).D} {d : DataW H} (h : Dt (.sl .str) x [d]) {m : Nat} (hk : Rows.uptoBulkAll [d] ≤ m) : List.length (α := List UInt8) x ≤ m ∧ ∀ t : List UInt8, t ∈ (id x : List (List UInt8)) → t.length ≤ m := by
  have h1 := bulk_ge (.sl .str) x [d] h
  have h3 : (Sh.sl .str).vol x = volT x + 1 := rfl
  have h4 := volT_ge x
  exact ⟨by omega, fun t ht => by have := h4.2 t ht; omega⟩
theorem ints_small {H : Type} {x : (Sh.sl (.int .i64)).D} {d : DataW H} (h : Dt (.sl (.int .i64)) x [d]) {m : Nat} (hk : Rows.uptoBulkAll [d] ≤ m) : List.length (α := Int) x ≤ m := by
  have h1 := bulk_ge (.sl (.int .i64)) x [d] h
  have h3 : (Sh.sl (.int .i64)).vol x = (List.map (β := Nat) (Sh.int .i64).vol x).sum + 1 := rfl
  have h4 : ∀ l : List Int, l.length ≤ (List.map (β := Nat) (Sh.int .i64).vol l).sum := by
    intro l
    induction l with
    | nil => simp
    | cons a l ih =>
      show List.length (α := Int) l + 1 ≤ 1 + (List.map (β := Nat) (Sh.int .i64).vol l).sum
      omega
  have := h4 x
  omega
theorem vol_sops : ∀ l : List sopS.D, volS (l.map sopOf) ≤ (l.map sopS.vol).sum
  | [] => by simp [volS]
  | x :: l => by
    have h1 := vol_sops l
    obtain ⟨k, s, u⟩ := x
    show List.length (α := UInt8) s + 2 + volS (l.map sopOf) ≤ (1 + ((List.length (α := UInt8) s + 1) + 0) + 1) + (l.map sopS.vol).sum
    omega
theorem sops_small {H : Type} {x : sopsS.D} {d : DataW H} (h : Dt sopsS x [d]) {m : Nat} (hk : Rows.uptoBulkAll [d] ≤ m) : volS (x.map sopOf) ≤ m := by
  have h1 := bulk_ge sopsS x [d] h
  have h2 := vol_sops x
  have h3 : sopsS.vol x = (x.map sopS.vol).sum + 1 := rfl
  omega
theorem small1 {H : Type} {d0 : DataW H} (hk : Rows.uptoSmall H ([d0] ++ []) = true) : Rows.uptoBulkAll [d0] ≤ 1048576 := of_decide_eq_true hk
theorem small2 {H : Type} {d0 d1 : DataW H} (hk : Rows.uptoSmall H ([d0, d1] ++ []) = true) : Rows.uptoBulkAll [d0] ≤ 1048576 ∧ Rows.uptoBulkAll [d1] ≤ 1048576 := by
  have h : Rows.uptoBulk d0 + (Rows.uptoBulk d1 + 0) ≤ 1048576 := of_decide_eq_true hk
  exact ⟨show Rows.uptoBulk d0 + 0 ≤ _ by omega, show Rows.uptoBulk d1 + 0 ≤ _ by omega⟩
theorem small3 {H : Type} {d0 d1 d2 : DataW H} (hk : Rows.uptoSmall H ([d0, d1, d2] ++ []) = true) : Rows.uptoBulkAll [d0] ≤ 1048576 ∧ Rows.uptoBulkAll [d1] ≤ 1048576 ∧ Rows.uptoBulkAll [d2] ≤ 1048576 := by
  have h : Rows.uptoBulk d0 + (Rows.uptoBulk d1 + (Rows.uptoBulk d2 + 0)) ≤ 1048576 := of_decide_eq_true hk
  exact ⟨show Rows.uptoBulk d0 + 0 ≤ _ by omega, show Rows.uptoBulk d1 + 0 ≤ _ by omega, show Rows.uptoBulk d2 + 0 ≤ _ by omega⟩
theorem str_small {H : Type} {s : List UInt8} {m : Nat} (hk : Rows.uptoBulkAll [DataW.lit (H := H) (.string s)] ≤ m) : s.length ≤ m := by
  have h : s.length + 1 + 0 ≤ m := hk
  omega
end Go.Wk.YtpnhfkmgnkdleaaDoor
