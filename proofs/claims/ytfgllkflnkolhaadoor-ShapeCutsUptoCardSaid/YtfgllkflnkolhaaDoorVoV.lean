/-
  Chapter 13: the shapes of the arguments, and their bulk.
-/
import Derived.Test.YtfgllkflnkolhaaDoorVoA
import Derived.Test.YtfgllkflnkolhaaDoorVol
import Derived.Test.YtfgllkflnkolhaaDoorShut
set_option linter.unusedVariables false
namespace Go.Wk.YtfgllkflnkolhaaDoor
open Go Go.Wk Go.Proofs Go.Proofs.YtfgllkflnkolhaaDoor

theorem strs_fit : fit Tryd.prog (.sl .str) 36 [] 0 = true := by kernel_rfl
theorem see_strs {w : World} {cs : List Value} {l : List (List UInt8)} (h : See w (.sl .str) cs l) : ∃ A cap, cs = [.slice A l.length cap] ∧ l.length ≤ cap ∧ Cs w A (l.map sv) := by
  obtain ⟨A, cap, rfl, h1, h2, h3⟩ := h
  refine ⟨A, cap, rfl, h1, fun j u hj => ?_⟩
  rw [List.getElem?_map, Option.map_eq_some_iff] at hj
  obtain ⟨x, hx, rfl⟩ := hj
  obtain ⟨b, o, xs, rfl, hl, hc, hs⟩ := h3 j x hx
  have hs : xs = [.string (sOf x)] := hs
  subst hs
  refine ⟨b, o, rfl, ?_⟩
  have := hc 0 _ rfl
  simpa [Sh.sz] using this
theorem ints_fit : fit Tryd.prog (.sl (.int .i64)) 164 [] 0 = true := by kernel_rfl
theorem see_ints {w : World} {cs : List Value} {l : List Int} (h : See w (.sl (.int .i64)) cs l) : ∃ A cap, cs = [.slice A l.length cap] ∧ l.length ≤ cap ∧ Cs w A (l.map fun n => .int .i64 n) ∧ ∀ n ∈ l, -9223372036854775808 ≤ n ∧ n ≤ 9223372036854775807 := by
  obtain ⟨A, cap, rfl, h1, h2, h3⟩ := h
  refine ⟨A, cap, rfl, h1, fun j u hj => ?_, fun n hn => ?_⟩
  · rw [List.getElem?_map, Option.map_eq_some_iff] at hj
    obtain ⟨x, hx, rfl⟩ := hj
    obtain ⟨b, o, xs, rfl, hl, hc, hs⟩ := h3 j x hx
    obtain ⟨rfl, _⟩ := hs
    refine ⟨b, o, rfl, ?_⟩
    have := hc 0 _ rfl
    simpa [Sh.sz] using this
  · obtain ⟨j, hj, rfl⟩ := List.getElem_of_mem hn
    obtain ⟨b, o, xs, _, _, _, _, hw⟩ := h3 j _ (List.getElem?_eq_getElem hj)
    exact lit_i64 hw
def volT (l : List (List UInt8)) : Nat := (l.map fun t => t.length + 1).sum
theorem volT_ge : ∀ l : List (List UInt8), l.length ≤ volT l ∧ ∀ t ∈ l, t.length ≤ volT l
  | [] => ⟨by simp, fun t h => by simp at h⟩
  | u :: l => by
    have ih := volT_ge l
    simp only [volT, List.map_cons, List.sum_cons, List.length_cons] at ih ⊢
    refine ⟨by omega, fun t ht => ?_⟩
    rcases List.mem_cons.1 ht with rfl | ht
    · omega
    · have := ih.2 t ht; omega
theorem strs_small {H : Type} {x : (Sh.sl .str).D} {d : DataW H} (h : Dt (.sl .str) x [d]) {m : Nat} (hk : Rows.uptoBulkAll [d] ≤ m) : List.length (α := List UInt8) x ≤ m ∧ ∀ t : List UInt8, t ∈ (id x : List (List UInt8)) → t.length ≤ m := by
  have h1 := bulk_ge (.sl .str) x [d] h
  have h3 : (Sh.sl .str).vol x = volT x + 1 := rfl
  have h4 := volT_ge x
  exact ⟨by omega, fun t ht => by have := h4.2 t ht; omega⟩
theorem ints_small {H : Type} {x : (Sh.sl (.int .i64)).D} {d : DataW H} (h : Dt (.sl (.int .i64)) x [d]) {m : Nat} (hk : Rows.uptoBulkAll [d] ≤ m) : List.length (α := Int) x ≤ m := by
  have h1 := bulk_ge (.sl (.int .i64)) x [d] h
  have h3 : (Sh.sl (.int .i64)).vol x = (List.map (β := Nat) (Sh.int .i64).vol x).sum + 1 := rfl
  have h4 : ∀ l : List Int, l.length ≤ (List.map (β := Nat) (Sh.int .i64).vol l).sum := by
    intro l
    induction l with
    | nil => simp
    | cons a l ih =>
      show List.length (α := Int) l + 1 ≤ 1 + (List.map (β := Nat) (Sh.int .i64).vol l).sum
      omega
  have := h4 x
  omega
theorem small1 {H : Type} {d0 : DataW H} (hk : Rows.uptoSmall H ([d0] ++ []) = true) : Rows.uptoBulkAll [d0] ≤ 1048576 := of_decide_eq_true hk
theorem small2 {H : Type} {d0 d1 : DataW H} (hk : Rows.uptoSmall H ([d0, d1] ++ []) = true) : Rows.uptoBulkAll [d0] ≤ 1048576 ∧ Rows.uptoBulkAll [d1] ≤ 1048576 := by
  have h : Rows.uptoBulk d0 + (Rows.uptoBulk d1 + 0) ≤ 1048576 := of_decide_eq_true hk
  exact ⟨show Rows.uptoBulk d0 + 0 ≤ _ by omega, show Rows.uptoBulk d1 + 0 ≤ _ by omega⟩
theorem small3 {H : Type} {d0 d1 d2 : DataW H} (hk : Rows.uptoSmall H ([d0, d1, d2] ++ []) = true) : Rows.uptoBulkAll [d0] ≤ 1048576 ∧ Rows.uptoBulkAll [d1] ≤ 1048576 ∧ Rows.uptoBulkAll [d2] ≤ 1048576 := by
  have h : Rows.uptoBulk d0 + (Rows.uptoBulk d1 + (Rows.uptoBulk d2 + 0)) ≤ 1048576 := of_decide_eq_true hk
  exact ⟨show Rows.uptoBulk d0 + 0 ≤ _ by omega, show Rows.uptoBulk d1 + 0 ≤ _ by omega, show Rows.uptoBulk d2 + 0 ≤ _ by omega⟩
theorem str_small {H : Type} {s : List UInt8} {m : Nat} (hk : Rows.uptoBulkAll [DataW.lit (H := H) (.string s)] ≤ m) : s.length ≤ m := by
  have h : s.length + 1 + 0 ≤ m := hk
  omega

def mrgS : Sh := .st (.pr (.int .i64) (.pr (.int .i64) (.pr (.int .i64) .un)))
def mOf (x : mrgS.D) : Mrg := (x.1, x.2.1, x.2.2.1)
theorem see_mrgs {w : World} {cs : List Value} {l : List mrgS.D} (h : See w (.sl mrgS) cs l) : ∃ A cap, cs = [.slice A (l.map mOf).length cap] ∧ Cs w A (mcs (l.map mOf)) := by
  obtain ⟨A, cap, rfl, h1, h2, h3⟩ := h
  refine ⟨A, cap, by rw [List.length_map], fun j u hj => ?_⟩
  have hjl := (List.getElem?_eq_some_iff.1 hj).1
  rw [mcs_len, List.length_map] at hjl
  obtain ⟨i, k, hk, rfl⟩ : ∃ i k, k < 3 ∧ j = i * 3 + k := ⟨j / 3, j % 3, Nat.mod_lt _ (by omega), by omega⟩
  have hi : i < l.length := by omega
  obtain ⟨b, o, xs, rfl, hl, hc, hs⟩ := h3 i _ (List.getElem?_eq_getElem hi)
  have hx : xs = mrg1 (mOf l[i]) := by
    obtain ⟨a, r1, rfl, ⟨rfl, _⟩, b', r2, rfl, ⟨rfl, _⟩, c', r3, rfl, ⟨rfl, _⟩, h6⟩ := hs
    have h6 : r3 = [] := h6
    subst h6
    rfl
  refine ⟨b, o, rfl, ?_⟩
  have hg : ((l.map mOf).getD i (0, 0, 0)) = mOf l[i] := by rw [List.getD_eq_getElem?_getD, List.getElem?_map, List.getElem?_eq_getElem hi]; rfl
  have hk2 : (mrg1 (mOf l[i]))[k]? = some ((mrg1 (mOf l[i]))[k]'(by simpa [mrg1] using hk)) := List.getElem?_eq_getElem _
  have h7 := mcs_at (l.map mOf) i k _ (by rw [List.length_map]; exact hi) (by rw [hg]; exact hk2)
  rw [h7] at hj
  cases hj
  have := hc k _ (by rw [hx]; exact hk2)
  rw [Nat.add_assoc] at this
  exact this
def vocS : Sh := .st (.pr (.sl .str) (.pr (.sl mrgS) .un))
theorem voc_fit : fit Tryd.prog vocS 48 [] 0 = true := by kernel_rfl
def vocOf (x : vocS.D) : VV := ⟨x.1, List.map (α := mrgS.D) mOf x.2.1⟩
theorem see_voc {w : World} {cs : List Value} {x : vocS.D} (h : See w vocS cs x) : ∃ A c B d, cs = [.slice A (vocOf x).texts.length c, .slice B (vocOf x).merges.length d] ∧ Vo w A B (vocOf x) := by
  obtain ⟨ts, ms, u⟩ := x
  obtain ⟨u1, r1, rfl, g1, u2, r2, rfl, g2, g3⟩ := h
  obtain ⟨A, c, rfl, _, hA⟩ := see_strs g1
  obtain ⟨B, d, rfl, hB⟩ := see_mrgs g2
  have g3 : r2 = [] := g3
  subst g3
  exact ⟨A, c, B, d, rfl, hA, hB⟩
theorem mrg_vol (x : mrgS.D) : mrgS.vol x = 4 := by obtain ⟨a, b, c, u⟩ := x; rfl
theorem vol_mrgs : ∀ l : List mrgS.D, (l.map mOf).length ≤ (l.map mrgS.vol).sum
  | [] => by simp
  | x :: l => by
    have ih := vol_mrgs l
    have h := mrg_vol x
    simp only [List.map_cons, List.sum_cons, List.length_cons]
    omega
theorem voc_small {H : Type} {x : vocS.D} {d : DataW H} (h : Dt vocS x [d]) {m : Nat} (hk : Rows.uptoBulkAll [d] ≤ m) (hm : m ≤ 5000000) : VS (vocOf x) := by
  have h1 := bulk_ge vocS x [d] h
  obtain ⟨ts, ms, u⟩ := x
  have h2 : vocS.vol (ts, ms, u) = (volT ts + 1) + (((List.map (β := Nat) mrgS.vol ms).sum + 1) + 0) + 1 := rfl
  have h3 := volT_ge ts
  have h4 := vol_mrgs ms
  rw [h2] at h1
  refine ⟨?_, fun t ht => ?_, ?_⟩
  · show List.length (α := List UInt8) ts ≤ _
    omega
  · have := h3.2 t ht; omega
  · show (List.map (α := mrgS.D) mOf ms).length ≤ _
    omega
end Go.Wk.YtfgllkflnkolhaaDoor
