/-
  Chapter 17: adapters as an argument.
-/
import Derived.Test.YtdelgnflcfhhkaaQL
import Derived.Test.YtdelgnflcfhhkaaFmC
set_option linter.unusedVariables false
namespace Go.Wk.Ytdelgnflcfhhkaa
open Go Go.Wk Go.Proofs Go.Proofs.Ytdelgnflcfhhkaa Go.Lib Go.ChangeShapes Go.WideShapes Go.ChangeAt Go.RowKit

def adS : Sh := .st (.pr (.int .i64) (.pr (.int .i64) (.pr (.int .i64) (.pr (.int .i64) (.pr r8S (.pr r8S .un))))))
def adsS : Sh := .sl adS
theorem ads_fit : fit Try.prog adsS 67 [] 0 = true := by kernel_rfl
theorem see_ad {w : World} {cs : List Value} {x : adS.D} (h : See w adS cs x) : ∃ a : Adp, cs = a.C ∧ a.A.At w ∧ a.B.At w := by
  obtain ⟨n1, n2, n3, n4, x1, x2, u⟩ := x
  obtain ⟨e1, f1, rfl, ⟨rfl, _⟩, e2, f2, rfl, ⟨rfl, _⟩, e3, f3, rfl, ⟨rfl, _⟩, e4, f4, rfl, ⟨rfl, _⟩, c1, d1, rfl, h1, c2, d2, rfl, h2, hu⟩ := h
  have hu : d2 = [] := hu
  subst hu
  obtain ⟨r1, rfl, a1, l1, q1⟩ := see_r8 h1
  obtain ⟨r2, rfl, a2, l2, q2⟩ := see_r8 h2
  exact ⟨⟨n1, n2, n3, n4, r1, r2⟩, rfl, a1, a2⟩
theorem see_ads {w : World} {cs : List Value} {l : List adS.D} (h : See w adsS cs l) : ∃ A c, cs = [.slice A l.length c] ∧ ∃ ad : List Adp, ad.length = l.length ∧ Cs w A (ad.flatMap Adp.C) ∧ ∀ a ∈ ad, a.A.At w ∧ a.B.At w := by
  obtain ⟨A, cap, rfl, h1, h2, h3⟩ := h
  obtain ⟨bs, e1, e2⟩ := pick (α := adS.D) (β := Adp) (l := l) (k := 0) (p := fun i x b => (∃ g o, A = some ⟨g, o, none⟩ ∧ ∀ j u, b.C[j]? = some u → w.cell? ⟨g, o + i * 6 + j, none⟩ = some u) ∧ b.A.At w ∧ b.B.At w) (fun i x hx => by
    obtain ⟨g, o, xs, rfl, hl, hc, hs⟩ := h3 i x hx
    obtain ⟨b, rfl, a1, a2⟩ := see_ad hs
    refine ⟨b, ⟨g, o, rfl, fun j u hj => ?_⟩, a1, a2⟩
    rw [Nat.zero_add]
    exact hc j u hj)
  have hat : ∀ i (hi : i < bs.length), _ := fun i hi => e2 i (l[i]'(by rw [← e1]; exact hi)) bs[i] (List.getElem?_eq_getElem (by rw [← e1]; exact hi)) (List.getElem?_eq_getElem hi)
  refine ⟨A, cap, rfl, bs, e1, fun j u hj => ?_, fun b hb => ?_⟩
  · have hjl := (List.getElem?_eq_some_iff.1 hj).1
    rw [flat_len (f := Adp.C) (k := 6) (fun _ => rfl)] at hjl
    obtain ⟨i, k, hk, rfl⟩ : ∃ i k, k < 6 ∧ j = i * 6 + k := ⟨j / 6, j % 6, Nat.mod_lt _ (by omega), by omega⟩
    have hi : i < bs.length := by omega
    obtain ⟨⟨g, o, rfl, hc⟩, _⟩ := hat i hi
    refine ⟨g, o, rfl, ?_⟩
    have hk2 : bs[i].C[k]? = some (bs[i].C[k]'(by exact hk)) := List.getElem?_eq_getElem _
    have h7 := flat_at (f := Adp.C) (k := 6) (fun _ => rfl) (List.getElem?_eq_getElem hi) hk2
    rw [h7] at hj
    cases hj
    have := hc k _ hk2
    rw [Nat.zero_add, Nat.add_assoc] at this
    exact this
  · obtain ⟨i, hi, rfl⟩ := List.getElem_of_mem hb
    exact (hat i hi).2
theorem ads_vol : ∀ l : List adS.D, l.length ≤ (l.map adS.vol).sum
  | [] => by simp
  | x :: l => by
    have ih := ads_vol l
    have h : 1 ≤ adS.vol x := by
      obtain ⟨n1, n2, n3, n4, x1, x2, u⟩ := x
      have e : adS.vol (n1, n2, n3, n4, x1, x2, u) = (1 + (1 + (1 + (1 + (r8S.vol x1 + (r8S.vol x2 + 0)))))) + 1 := rfl
      rw [e]; omega
    simp only [List.map_cons, List.sum_cons, List.length_cons]
    omega
theorem ads_small {H : Type} {x : adsS.D} {d : DataW H} (h : Dt adsS x [d]) {m : Nat} (hk : Rows.uptoBulkAll [d] ≤ m) : List.length (α := adS.D) x ≤ m := by
  have h1 := bulk_ge adsS x [d] h
  have h2 := ads_vol x
  have h3 : adsS.vol x = (List.map (β := Nat) adS.vol x).sum + 1 := rfl
  rw [h3] at h1
  omega
end Go.Wk.Ytdelgnflcfhhkaa
