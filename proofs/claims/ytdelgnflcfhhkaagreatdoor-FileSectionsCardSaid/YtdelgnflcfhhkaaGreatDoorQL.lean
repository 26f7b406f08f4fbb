/-
  Taken for this seat out of VoA.
-/
import Derived.Test.YtdelgnflcfhhkaaGreatDoorPVo
import Derived.Test.YtdelgnflcfhhkaaGreatDoorFst
import Derived.Test.YtdelgnflcfhhkaaGreatDoorCopy
import Derived.Test.YtdelgnflcfhhkaaGreatDoorMevs
import Derived.Test.YtdelgnflcfhhkaaGreatDoorRows
import Derived.Test.YtdelgnflcfhhkaaGreatDoorOpen
import Derived.Test.YtdelgnflcfhhkaaGreatDoorShut
import Derived.Test.YtdelgnflcfhhkaaGreatDoorPShE
import Derived.Test.YtdelgnflcfhhkaaGreatDoorPShA
import Derived.OpenShut
import Derived.Deep.DeepHandedRow
import Derived.Lib.LaidU8T
import Derived.PinnedBridge
import Derived.Test.YtdelgnflcfhhkaaGreatDoorPSx
set_option linter.unusedVariables false
namespace Go.Wk.YtdelgnflcfhhkaaGreatDoor
open Go Go.Wk Go.Proofs
theorem mcs_len : ∀ l : List Mrg, (mcs l).length = l.length * 3
  | [] => rfl
  | m :: l => by
    have := mcs_len l
    unfold mcs at this ⊢
    rw [List.flatMap_cons, List.length_append, this]
    simp [mrg1]; omega
end Go.Wk.YtdelgnflcfhhkaaGreatDoor
namespace Go.Wk.YtdelgnflcfhhkaaGreatDoor
open Go Go.Wk Go.Proofs.YtdelgnflcfhhkaaGreatDoor
theorem bulk_ge {H : Type} : ∀ (s : Sh) (x : s.D) (ds : List (DataW H)), Dt s x ds → s.vol x ≤ Rows.uptoBulkAll ds := by
  intro s
  induction s with
  | int k => rintro x ds rfl; simp [Sh.vol, Rows.uptoBulkAll, Rows.uptoBulk]
  | i8 => rintro x ds rfl; simp [Sh.vol, Rows.uptoBulkAll, Rows.uptoBulk]
  | u8 => rintro x ds rfl; simp [Sh.vol, Rows.uptoBulkAll, Rows.uptoBulk]
  | bool => rintro x ds rfl; simp [Sh.vol, Rows.uptoBulkAll, Rows.uptoBulk]
  | str => rintro x ds rfl; simp [Sh.vol, Rows.uptoBulkAll, Rows.uptoBulk]
  | un => rintro x ds rfl; simp [Sh.vol]
  | st r ih =>
    rintro x ds ⟨ps, rfl, h⟩
    have := ih x ps h
    simp only [Sh.vol, Rows.uptoBulkAll, Rows.uptoBulk]
    omega
  | pr a r iha ihr =>
    rintro ⟨x, y⟩ ds ⟨u, v, rfl, h1, h2⟩
    have h3 := iha x _ h1
    have h4 := ihr y _ h2
    simp only [Sh.vol, Rows.uptoBulkAll, List.cons_append, List.nil_append] at *
    omega
  | sl e ih =>
    rintro l ds (⟨rfl, rfl⟩ | ⟨es, sp, rfl, hl, h⟩)
    · simp [Sh.vol, Rows.uptoBulkAll, Rows.uptoBulk]
    have key : ∀ (l : List e.D) (es : List (DataW H)), es.length = l.length → (∀ (i : Nat) (x : e.D) (d : DataW H), l[i]? = some x → es[i]? = some d → Dt e x [d]) → (l.map e.vol).sum ≤ Rows.uptoBulkAll es := by
      intro l
      induction l with
      | nil => intro es _ _; simp
      | cons x l ihl =>
        intro es hl h
        cases es with
        | nil => simp at hl
        | cons d es =>
          have h1 := ih x _ (h 0 x d rfl rfl)
          have h2 := ihl es (by simpa using hl) (fun i y d' h1 h2 => h (i + 1) y d' (by simpa using h1) (by simpa using h2))
          simp only [Rows.uptoBulkAll, List.map_cons, List.sum_cons] at *
          omega
    have := key l es hl h
    simp only [Sh.vol, Rows.uptoBulkAll, Rows.uptoBulk]
    omega
end Go.Wk.YtdelgnflcfhhkaaGreatDoor
namespace Go.Wk.YtdelgnflcfhhkaaGreatDoor
open Go Go.Wk Go.Proofs Go.Proofs.YtdelgnflcfhhkaaGreatDoor
theorem see_strs {w : World} {cs : List Value} {l : List (List UInt8)} (h : See w (.sl .str) cs l) : ∃ A cap, cs = [.slice A l.length cap] ∧ l.length ≤ cap ∧ Cs w A (l.map sv) := by
  obtain ⟨A, cap, rfl, h1, h2, h3⟩ := h
  refine ⟨A, cap, rfl, h1, fun j u hj => ?_⟩
  rw [List.getElem?_map, Option.map_eq_some_iff] at hj
  obtain ⟨x, hx, rfl⟩ := hj
  obtain ⟨b, o, xs, rfl, hl, hc, hs⟩ := h3 j x hx
  have hs : xs = [.string (sOf x)] := hs
  subst hs
  refine ⟨b, o, rfl, ?_⟩
  have := hc 0 _ rfl
  simpa [Sh.sz] using this
def volT (l : List (List UInt8)) : Nat := (l.map fun t => t.length + 1).sum
theorem volT_ge : ∀ l : List (List UInt8), l.length ≤ volT l ∧ ∀ t ∈ l, t.length ≤ volT l
  | [] => ⟨by simp, fun t h => by simp at h⟩
  | u :: l => by
    have ih := volT_ge l
    simp only [volT, List.map_cons, List.sum_cons, List.length_cons] at ih ⊢
    refine ⟨by omega, fun t ht => ?_⟩
    rcases List.mem_cons.1 ht with rfl | ht
    · omega
    · have := ih.2 t ht; omega
theorem small1 {H : Type} {d0 : DataW H} (hk : Rows.uptoSmall H ([d0] ++ []) = true) : Rows.uptoBulkAll [d0] ≤ 1048576 := of_decide_eq_true hk
theorem small2 {H : Type} {d0 d1 : DataW H} (hk : Rows.uptoSmall H ([d0, d1] ++ []) = true) : Rows.uptoBulkAll [d0] ≤ 1048576 ∧ Rows.uptoBulkAll [d1] ≤ 1048576 := by
  have h : Rows.uptoBulk d0 + (Rows.uptoBulk d1 + 0) ≤ 1048576 := of_decide_eq_true hk
  exact ⟨show Rows.uptoBulk d0 + 0 ≤ _ by omega, show Rows.uptoBulk d1 + 0 ≤ _ by omega⟩
theorem small3 {H : Type} {d0 d1 d2 : DataW H} (hk : Rows.uptoSmall H ([d0, d1, d2] ++ []) = true) : Rows.uptoBulkAll [d0] ≤ 1048576 ∧ Rows.uptoBulkAll [d1] ≤ 1048576 ∧ Rows.uptoBulkAll [d2] ≤ 1048576 := by
  have h : Rows.uptoBulk d0 + (Rows.uptoBulk d1 + (Rows.uptoBulk d2 + 0)) ≤ 1048576 := of_decide_eq_true hk
  exact ⟨show Rows.uptoBulk d0 + 0 ≤ _ by omega, show Rows.uptoBulk d1 + 0 ≤ _ by omega, show Rows.uptoBulk d2 + 0 ≤ _ by omega⟩
theorem str_small {H : Type} {s : List UInt8} {m : Nat} (hk : Rows.uptoBulkAll [DataW.lit (H := H) (.string s)] ≤ m) : s.length ≤ m := by
  have h : s.length + 1 + 0 ≤ m := hk
  omega
def mrgS : Sh := .st (.pr (.int .i64) (.pr (.int .i64) (.pr (.int .i64) .un)))
def mOf (x : mrgS.D) : Mrg := (x.1, x.2.1, x.2.2.1)
theorem see_mrgs {w : World} {cs : List Value} {l : List mrgS.D} (h : See w (.sl mrgS) cs l) : ∃ A cap, cs = [.slice A (l.map mOf).length cap] ∧ Cs w A (mcs (l.map mOf)) := by
  obtain ⟨A, cap, rfl, h1, h2, h3⟩ := h
  refine ⟨A, cap, by rw [List.length_map], fun j u hj => ?_⟩
  have hjl := (List.getElem?_eq_some_iff.1 hj).1
  rw [mcs_len, List.length_map] at hjl
  obtain ⟨i, k, hk, rfl⟩ : ∃ i k, k < 3 ∧ j = i * 3 + k := ⟨j / 3, j % 3, Nat.mod_lt _ (by omega), by omega⟩
  have hi : i < l.length := by omega
  obtain ⟨b, o, xs, rfl, hl, hc, hs⟩ := h3 i _ (List.getElem?_eq_getElem hi)
  have hx : xs = mrg1 (mOf l[i]) := by
    obtain ⟨a, r1, rfl, ⟨rfl, _⟩, b', r2, rfl, ⟨rfl, _⟩, c', r3, rfl, ⟨rfl, _⟩, h6⟩ := hs
    have h6 : r3 = [] := h6
    subst h6
    rfl
  refine ⟨b, o, rfl, ?_⟩
  have hg : ((l.map mOf).getD i (0, 0, 0)) = mOf l[i] := by rw [List.getD_eq_getElem?_getD, List.getElem?_map, List.getElem?_eq_getElem hi]; rfl
  have hk2 : (mrg1 (mOf l[i]))[k]? = some ((mrg1 (mOf l[i]))[k]'(by simpa [mrg1] using hk)) := List.getElem?_eq_getElem _
  have h7 := mcs_at (l.map mOf) i k _ (by rw [List.length_map]; exact hi) (by rw [hg]; exact hk2)
  rw [h7] at hj
  cases hj
  have := hc k _ (by rw [hx]; exact hk2)
  rw [Nat.add_assoc] at this
  exact this
def vocS : Sh := .st (.pr (.sl .str) (.pr (.sl mrgS) .un))
theorem voc_fit : fit Tryz.prog vocS 39 [] 0 = true := by kernel_rfl
def vocOf (x : vocS.D) : VV := ⟨x.1, List.map (α := mrgS.D) mOf x.2.1⟩
theorem see_voc {w : World} {cs : List Value} {x : vocS.D} (h : See w vocS cs x) : ∃ A c B d, cs = [.slice A (vocOf x).texts.length c, .slice B (vocOf x).merges.length d] ∧ Vo w A B (vocOf x) := by
  obtain ⟨ts, ms, u⟩ := x
  obtain ⟨u1, r1, rfl, g1, u2, r2, rfl, g2, g3⟩ := h
  obtain ⟨A, c, rfl, _, hA⟩ := see_strs g1
  obtain ⟨B, d, rfl, hB⟩ := see_mrgs g2
  have g3 : r2 = [] := g3
  subst g3
  exact ⟨A, c, B, d, rfl, hA, hB⟩
theorem mrg_vol (x : mrgS.D) : mrgS.vol x = 4 := by obtain ⟨a, b, c, u⟩ := x; rfl
theorem vol_mrgs : ∀ l : List mrgS.D, (l.map mOf).length ≤ (l.map mrgS.vol).sum
  | [] => by simp
  | x :: l => by
    have ih := vol_mrgs l
    have h := mrg_vol x
    simp only [List.map_cons, List.sum_cons, List.length_cons]
    omega
theorem voc_small {H : Type} {x : vocS.D} {d : DataW H} (h : Dt vocS x [d]) {m : Nat} (hk : Rows.uptoBulkAll [d] ≤ m) (hm : m ≤ 5000000) : VS (vocOf x) := by
  have h1 := bulk_ge vocS x [d] h
  obtain ⟨ts, ms, u⟩ := x
  have h2 : vocS.vol (ts, ms, u) = (volT ts + 1) + (((List.map (β := Nat) mrgS.vol ms).sum + 1) + 0) + 1 := rfl
  have h3 := volT_ge ts
  have h4 := vol_mrgs ms
  rw [h2] at h1
  refine ⟨?_, fun t ht => ?_, ?_⟩
  · show List.length (α := List UInt8) ts ≤ _
    omega
  · have := h3.2 t ht; omega
  · show (List.map (α := mrgS.D) mOf ms).length ≤ _
    omega
end Go.Wk.YtdelgnflcfhhkaaGreatDoor
namespace Go.Wk.YtdelgnflcfhhkaaGreatDoor
open Go Go.Wk Go.Proofs Go.Proofs.YtdelgnflcfhhkaaGreatDoor Go.Lib Go.ChangeShapes Go.WideShapes Go.ChangeAt Go.RowKit
/-- a shape as an argument -/
def shpS : Sh := .st (.pr (.int .i64) (.pr (.int .i64) (.pr (.int .i64) (.pr (.int .i64) (.pr (.int .i64) (.pr (.int .i64) .un))))))
theorem see_shp {w : World} {cs : List Value} {x : shpS.D} (h : See w shpS cs x) : ∃ s : Shp, cs = shpC s := by
  obtain ⟨c1, r1, rfl, ⟨rfl, _⟩, c2, r2, rfl, ⟨rfl, _⟩, c3, r3, rfl, ⟨rfl, _⟩, c4, r4, rfl, ⟨rfl, _⟩, c5, r5, rfl, ⟨rfl, _⟩, c6, r6, rfl, ⟨rfl, _⟩, h7⟩ := h
  have h7 : r6 = [] := h7
  subst h7
  exact ⟨⟨_, _, _, _, _, _⟩, rfl⟩
theorem shp_fit : fit Tryz.prog shpS 35 [] 0 = true := by kernel_rfl
end Go.Wk.YtdelgnflcfhhkaaGreatDoor
namespace Go.Wk.YtdelgnflcfhhkaaGreatDoor
open Go Go.Wk Go.Proofs Go.Proofs.YtdelgnflcfhhkaaGreatDoor
def r8S : Sh := .sl .i8
theorem see_r8 {w : World} {cs : List Value} {x : r8S.D} (h : See w r8S cs x) : ∃ r : Rw, cs = [r.v] ∧ r.At w ∧ r.xs.length ≤ r.c ∧ r.xs = x := by
  obtain ⟨A, cap, rfl, h1, h2, h3⟩ := h
  refine ⟨⟨A, cap, x⟩, rfl, fun j u hj => ?_, h1, rfl⟩
  rw [List.getElem?_map, Option.map_eq_some_iff] at hj
  obtain ⟨y, hy, rfl⟩ := hj
  obtain ⟨b, o, xs, rfl, hl, hc, hs⟩ := h3 j y hy
  have hs : xs = [i8v y] := hs
  subst hs
  refine ⟨b, o, rfl, ?_⟩
  have := hc 0 _ rfl
  simpa [Sh.sz] using this
def midS : Sh := .st (.pr r8S (.pr r8S (.pr r8S (.pr (.int .i64) (.pr (.int .i64) (.pr (.int .i64) .un))))))
def bkSh : Sh := .st (.pr r8S (.pr r8S (.pr r8S (.pr r8S (.pr r8S (.pr r8S (.pr (.int .i64) (.pr (.int .i64) (.pr (.int .i64) (.pr (.int .i64) (.pr (.int .i64) (.pr midS .un))))))))))))
def mdS : Sh := .st (.pr shpS (.pr vocS (.pr r8S (.pr (.int .i64) (.pr r8S (.pr r8S (.pr (.sl bkSh) (.pr r8S (.pr r8S (.pr r8S (.pr (.int .i64) .un)))))))))))
theorem md_fit : fit Tryz.prog mdS 47 [] 0 = true := by kernel_rfl
/-- a row's numbers -/
abbrev xsL (l : r8S.D) : List Int8 := l
def bkOf (x : bkSh.D) : Bk (List Int8) :=
  ⟨xsL x.1, xsL x.2.1, xsL x.2.2.1, xsL x.2.2.2.1, xsL x.2.2.2.2.1, xsL x.2.2.2.2.2.1, x.2.2.2.2.2.2.1, x.2.2.2.2.2.2.2.1, x.2.2.2.2.2.2.2.2.1, x.2.2.2.2.2.2.2.2.2.1, x.2.2.2.2.2.2.2.2.2.2.1,
    xsL x.2.2.2.2.2.2.2.2.2.2.2.1.1, xsL x.2.2.2.2.2.2.2.2.2.2.2.1.2.1, xsL x.2.2.2.2.2.2.2.2.2.2.2.1.2.2.1, x.2.2.2.2.2.2.2.2.2.2.2.1.2.2.2.1, x.2.2.2.2.2.2.2.2.2.2.2.1.2.2.2.2.1, x.2.2.2.2.2.2.2.2.2.2.2.1.2.2.2.2.2.1⟩
theorem see_blk {w : World} {cs : List Value} {x : bkSh.D} (h : See w bkSh cs x) : ∃ b : Bk Rw, cs = bkC b ∧ b.At w ∧ (∀ r ∈ b.rows, r.xs.length ≤ r.c) ∧ pBk b = bkOf x := by
  obtain ⟨x1, x2, x3, x4, x5, x6, n1, n2, n3, n4, n5, ⟨y1, y2, y3, m1, m2, m3, u⟩, v⟩ := x
  obtain ⟨c1, d1, rfl, h1, c2, d2, rfl, h2, c3, d3, rfl, h3, c4, d4, rfl, h4, c5, d5, rfl, h5, c6, d6, rfl, h6, e1, f1, rfl, ⟨rfl, _⟩, e2, f2, rfl, ⟨rfl, _⟩, e3, f3, rfl, ⟨rfl, _⟩, e4, f4, rfl, ⟨rfl, _⟩, e5, f5, rfl, ⟨rfl, _⟩, c7, d7, rfl, hm, hu⟩ := h
  have hu : d7 = [] := hu
  subst hu
  obtain ⟨c8, d8, rfl, h7, c9, d9, rfl, h8, c10, d10, rfl, h9, e6, f6, rfl, ⟨rfl, _⟩, e7, f7, rfl, ⟨rfl, _⟩, e8, f8, rfl, ⟨rfl, _⟩, hu⟩ := hm
  have hu : f8 = [] := hu
  subst hu
  obtain ⟨r1, rfl, a1, l1, q1⟩ := see_r8 h1
  obtain ⟨r2, rfl, a2, l2, q2⟩ := see_r8 h2
  obtain ⟨r3, rfl, a3, l3, q3⟩ := see_r8 h3
  obtain ⟨r4, rfl, a4, l4, q4⟩ := see_r8 h4
  obtain ⟨r5, rfl, a5, l5, q5⟩ := see_r8 h5
  obtain ⟨r6, rfl, a6, l6, q6⟩ := see_r8 h6
  obtain ⟨r7, rfl, a7, l7, q7⟩ := see_r8 h7
  obtain ⟨r8, rfl, a8, l8, q8⟩ := see_r8 h8
  obtain ⟨r9, rfl, a9, l9, q9⟩ := see_r8 h9
  refine ⟨⟨r1, r2, r3, r4, r5, r6, n1, n2, n3, n4, n5, r7, r8, r9, m1, m2, m3⟩, rfl, fun r hr => ?_, fun r hr => ?_, ?_⟩
  · simp only [List.mem_cons, List.not_mem_nil, or_false] at hr
    rcases hr with rfl | rfl | rfl | rfl | rfl | rfl | rfl | rfl | rfl <;> assumption
  · simp only [List.mem_cons, List.not_mem_nil, or_false] at hr
    rcases hr with rfl | rfl | rfl | rfl | rfl | rfl | rfl | rfl | rfl <;> assumption
  · simp only [Bk.map, q1, q2, q3, q4, q5, q6, q7, q8, q9]
    rfl
theorem pick {α β : Type} {p : Nat → α → β → Prop} : ∀ {l : List α} {k : Nat}, (∀ i x, l[i]? = some x → ∃ b, p (k + i) x b) → ∃ bs : List β, bs.length = l.length ∧ ∀ i x b, l[i]? = some x → bs[i]? = some b → p (k + i) x b
  | [], k, h => ⟨[], rfl, fun i x b hx => by simp at hx⟩
  | a :: l, k, h => by
    obtain ⟨b, hb⟩ := h 0 a rfl
    obtain ⟨bs, h1, h2⟩ := pick (l := l) (k := k + 1) (p := p) (fun i x hx => by
      obtain ⟨b, hb⟩ := h (i + 1) x (by simpa using hx)
      exact ⟨b, by rwa [show k + 1 + i = k + (i + 1) by omega]⟩)
    refine ⟨b :: bs, by simp [h1], fun i x c hx hc => ?_⟩
    cases i with
    | zero => simp at hx hc; subst hx; subst hc; exact hb
    | succ i =>
      have := h2 i x c (by simpa using hx) (by simpa using hc)
      rwa [show k + 1 + i = k + (i + 1) by omega] at this
theorem see_blks {w : World} {cs : List Value} {l : List bkSh.D} (h : See w (.sl bkSh) cs l) : ∃ A c, ∃ bs : List (Bk Rw), cs = [.slice A bs.length c] ∧ Cs w A (bs.flatMap bkC) ∧ (∀ b ∈ bs, b.At w) ∧ (∀ b ∈ bs, ∀ r ∈ b.rows, r.xs.length ≤ r.c) ∧ bs.map pBk = l.map bkOf ∧ bs.length ≤ c := by
  obtain ⟨A, cap, rfl, h1, h2, h3⟩ := h
  obtain ⟨bs, e1, e2⟩ := pick (α := bkSh.D) (β := Bk Rw) (l := l) (k := 0) (p := fun i x b => (∃ g o, A = some ⟨g, o, none⟩ ∧ ∀ j u, (bkC b)[j]? = some u → w.cell? ⟨g, o + i * 17 + j, none⟩ = some u) ∧ b.At w ∧ (∀ r ∈ b.rows, r.xs.length ≤ r.c) ∧ pBk b = bkOf x) (fun i x hx => by
    obtain ⟨g, o, xs, rfl, hl, hc, hs⟩ := h3 i x hx
    obtain ⟨b, rfl, a1, a2, a3⟩ := see_blk hs
    refine ⟨b, ⟨g, o, rfl, fun j u hj => ?_⟩, a1, a2, a3⟩
    rw [Nat.zero_add]
    exact hc j u hj)
  have hat : ∀ i (hi : i < bs.length), _ := fun i hi => e2 i (l[i]'(by rw [← e1]; exact hi)) bs[i] (List.getElem?_eq_getElem (by rw [← e1]; exact hi)) (List.getElem?_eq_getElem hi)
  refine ⟨A, cap, bs, by rw [e1], fun j u hj => ?_, fun b hb => ?_, fun b hb => ?_, ?_, by rw [e1]; exact h1⟩
  · have hjl := (List.getElem?_eq_some_iff.1 hj).1
    rw [flat_len bkC_len] at hjl
    obtain ⟨i, k, hk, rfl⟩ : ∃ i k, k < 17 ∧ j = i * 17 + k := ⟨j / 17, j % 17, Nat.mod_lt _ (by omega), by omega⟩
    have hi : i < bs.length := by omega
    obtain ⟨⟨g, o, rfl, hc⟩, _⟩ := hat i hi
    refine ⟨g, o, rfl, ?_⟩
    have hk2 : (bkC bs[i])[k]? = some ((bkC bs[i])[k]'(by rw [bkC_len]; exact hk)) := List.getElem?_eq_getElem _
    have h7 := flat_at bkC_len (List.getElem?_eq_getElem hi) hk2
    rw [h7] at hj
    cases hj
    have := hc k _ hk2
    rw [Nat.zero_add, Nat.add_assoc] at this
    exact this
  · obtain ⟨i, hi, rfl⟩ := List.getElem_of_mem hb
    exact (hat i hi).2.1
  · obtain ⟨i, hi, rfl⟩ := List.getElem_of_mem hb
    exact (hat i hi).2.2.1
  · refine List.ext_getElem (by simp [e1]) fun i h h' => ?_
    have hi : i < bs.length := by simpa using h
    rw [List.getElem_map, List.getElem_map]
    exact (hat i hi).2.2.2
/-- what is asked of a model's rows' room -/
structure LM.Room (m : LM) : Prop where
  rows : ∀ r ∈ m.rows, r.xs.length ≤ r.c
  bs : ∀ b ∈ m.bs, ∀ r ∈ b.rows, r.xs.length ≤ r.c
  bl : m.bs.length ≤ m.bc
theorem LM.Room.cap {m : LM} (h : m.Room) : m.Cap := fun b hb => ⟨h.bs b hb _ (by simp), h.bs b hb _ (by simp)⟩
theorem see_md {w : World} {cs : List Value} {x : mdS.D} (h : See w mdS cs x) : ∃ m : LM, cs = lmC m ∧ m.At w ∧ m.Room ∧ m.V = vocOf x.2.1 ∧ m.bs.map pBk = List.map (α := bkSh.D) bkOf x.2.2.2.2.2.2.1 ∧
    (m.e.xs = xsL x.2.2.1 ∧ m.cos.xs = xsL x.2.2.2.2.1 ∧ m.sin.xs = xsL x.2.2.2.2.2.1 ∧ m.bend.xs = xsL x.2.2.2.2.2.2.2.1 ∧ m.gain.xs = xsL x.2.2.2.2.2.2.2.2.1 ∧ m.un.xs = xsL x.2.2.2.2.2.2.2.2.2.1) := by
  obtain ⟨s, V, x1, n1, x2, x3, bl, x4, x5, x6, n2, u⟩ := x
  obtain ⟨c1, d1, rfl, hs, c2, d2, rfl, hV, c3, d3, rfl, h1, e1, f1, rfl, ⟨rfl, _⟩, c4, d4, rfl, h2, c5, d5, rfl, h3, c6, d6, rfl, hb, c7, d7, rfl, h4, c8, d8, rfl, h5, c9, d9, rfl, h6, e2, f2, rfl, ⟨rfl, _⟩, hu⟩ := h
  have hu : f2 = [] := hu
  subst hu
  obtain ⟨s', rfl⟩ := see_shp hs
  obtain ⟨tA, tc, mA, mc, rfl, hvo⟩ := see_voc hV
  obtain ⟨r1, rfl, a1, l1, q1⟩ := see_r8 h1
  obtain ⟨r2, rfl, a2, l2, q2⟩ := see_r8 h2
  obtain ⟨r3, rfl, a3, l3, q3⟩ := see_r8 h3
  obtain ⟨r4, rfl, a4, l4, q4⟩ := see_r8 h4
  obtain ⟨r5, rfl, a5, l5, q5⟩ := see_r8 h5
  obtain ⟨r6, rfl, a6, l6, q6⟩ := see_r8 h6
  obtain ⟨bA, bc, bs, rfl, hcs, hat, hrm, hbe, hbc⟩ := see_blks hb
  refine ⟨⟨s', tA, tc, mA, mc, vocOf V, r1, n1, r2, r3, bA, bc, bs, r4, r5, r6, n2⟩, rfl, ⟨hvo, fun r hr => ?_, hcs, hat⟩, ⟨fun r hr => ?_, hrm, hbc⟩, rfl, hbe, q1, q2, q3, q4, q5, q6⟩
  · simp only [List.mem_cons, List.not_mem_nil, or_false] at hr
    rcases hr with rfl | rfl | rfl | rfl | rfl | rfl <;> assumption
  · simp only [List.mem_cons, List.not_mem_nil, or_false] at hr
    rcases hr with rfl | rfl | rfl | rfl | rfl | rfl <;> assumption
theorem r8_vol' : ∀ l : r8S.D, r8S.vol l = (xsL l).length + 1
  | [] => rfl
  | x :: l => by
    have h := r8_vol' l
    have e : r8S.vol (x :: l) = 1 + r8S.vol l := rfl
    rw [e, h]
    show 1 + ((xsL l).length + 1) = (xsL l).length + 1 + 1
    omega
theorem bk_vol (x : bkSh.D) : ∀ r ∈ (bkOf x).rows, r.length ≤ bkSh.vol x := by
  obtain ⟨x1, x2, x3, x4, x5, x6, n1, n2, n3, n4, n5, ⟨y1, y2, y3, m1, m2, m3, u⟩, v⟩ := x
  have e : bkSh.vol (x1, x2, x3, x4, x5, x6, n1, n2, n3, n4, n5, (y1, y2, y3, m1, m2, m3, u), v) = (r8S.vol x1 + (r8S.vol x2 + (r8S.vol x3 + (r8S.vol x4 + (r8S.vol x5 + (r8S.vol x6 + (1 + (1 + (1 + (1 + (1 + (((r8S.vol y1 + (r8S.vol y2 + (r8S.vol y3 + (1 + (1 + (1 + 0))))))) + 1 + 0)))))))))))) + 1 := rfl
  have z := r8_vol'
  rw [e, z x1, z x2, z x3, z x4, z x5, z x6, z y1, z y2, z y3]
  intro r hr
  have hr : r ∈ [xsL x1, xsL x6, xsL x2, xsL x3, xsL x4, xsL x5, xsL y1, xsL y2, xsL y3] := hr
  simp only [List.mem_cons, List.not_mem_nil, or_false] at hr
  rcases hr with h | h | h | h | h | h | h | h | h <;> (rw [h]; omega)
theorem bks_vol : ∀ l : List bkSh.D, 2 * l.length ≤ (List.map (β := Nat) bkSh.vol l).sum ∧ ∀ x ∈ l, bkSh.vol x ≤ (List.map (β := Nat) bkSh.vol l).sum
  | [] => ⟨Nat.zero_le _, fun x h => by cases h⟩
  | y :: l => by
    have ih := bks_vol l
    rw [List.map_cons, List.sum_cons]
    have h1 : 2 ≤ bkSh.vol y := Nat.succ_le_succ (Nat.le_trans (show 1 ≤ r8S.vol y.1 from Nat.succ_le_succ (Nat.zero_le _)) (Nat.le_add_right _ _))
    refine ⟨by rw [List.length_cons]; omega, fun x hx => ?_⟩
    rcases List.mem_cons.1 hx with rfl | hx
    · omega
    · have := ih.2 x hx; omega
theorem md_small {H : Type} {x : mdS.D} {d : DataW H} (h : Dt mdS x [d]) {k : Nat} (hk : Rows.uptoBulkAll [d] ≤ k) (hm : k ≤ 1048576) {m : LM} (hV : m.V = vocOf x.2.1) (hb : m.bs.map pBk = List.map (α := bkSh.D) bkOf x.2.2.2.2.2.2.1)
    (hx : m.e.xs = xsL x.2.2.1 ∧ m.cos.xs = xsL x.2.2.2.2.1 ∧ m.sin.xs = xsL x.2.2.2.2.2.1 ∧ m.bend.xs = xsL x.2.2.2.2.2.2.2.1 ∧ m.gain.xs = xsL x.2.2.2.2.2.2.2.2.1 ∧ m.un.xs = xsL x.2.2.2.2.2.2.2.2.2.1) : m.Sm := by
  have h1 := bulk_ge mdS x [d] h
  obtain ⟨s, V, x1, n1, x2, x3, bl, x4, x5, x6, n2, u⟩ := x
  obtain ⟨q1, q2, q3, q4, q5, q6⟩ := hx
  obtain ⟨ts, ms, uu⟩ := V
  have e : mdS.vol (s, (ts, ms, uu), x1, n1, x2, x3, bl, x4, x5, x6, n2, u) = (shpS.vol s + (((volT ts + 1) + (((List.map (β := Nat) mrgS.vol ms).sum + 1) + 0) + 1) + (r8S.vol x1 + (1 + (r8S.vol x2 + (r8S.vol x3 + (((List.map (β := Nat) bkSh.vol bl).sum + 1) + (r8S.vol x4 + (r8S.vol x5 + (r8S.vol x6 + (1 + 0))))))))))) + 1 := rfl
  have hbv := bks_vol bl
  have hT := volT_ge ts
  have hM := vol_mrgs ms
  have z := r8_vol'
  rw [e, z x1, z x2, z x3, z x4, z x5, z x6] at h1
  refine ⟨fun r hr => ?_, fun b hb' => ?_, ?_, ?_⟩
  · simp only [List.mem_cons, List.not_mem_nil, or_false] at hr
    rcases hr with rfl | rfl | rfl | rfl | rfl | rfl
    · rw [q1]; show (xsL x1).length ≤ _; omega
    · rw [q2]; show (xsL x2).length ≤ _; omega
    · rw [q3]; show (xsL x3).length ≤ _; omega
    · rw [q4]; show (xsL x4).length ≤ _; omega
    · rw [q5]; show (xsL x5).length ≤ _; omega
    · rw [q6]; show (xsL x6).length ≤ _; omega
  · have hp : pBk b ∈ List.map (α := bkSh.D) bkOf bl := by
      have : pBk b ∈ m.bs.map pBk := List.mem_map_of_mem hb'
      rw [hb] at this; exact this
    obtain ⟨y, hy, ey⟩ := List.mem_map.1 hp
    have hy1 := hbv.2 y hy
    have hy2 := bk_vol y
    rw [ey] at hy2
    intro r hr
    have : r.xs ∈ (pBk b).rows := by
      simp only [List.mem_cons, List.not_mem_nil, or_false] at hr
      rcases hr with rfl | rfl | rfl | rfl | rfl | rfl | rfl | rfl | rfl <;> simp [Bk.map]
    have := hy2 _ this
    omega
  · have := congrArg List.length hb
    have this : m.bs.length = List.length (α := bkSh.D) bl := by rw [← List.length_map (f := pBk), this]; exact List.length_map (α := bkSh.D) _
    have := hbv.1
    omega
  · rw [hV]
    refine ⟨?_, fun t ht => ?_, ?_⟩
    · show List.length (α := List UInt8) ts ≤ _
      omega
    · have := hT.2 t ht; omega
    · show (List.map (α := mrgS.D) mOf ms).length ≤ _
      omega
end Go.Wk.YtdelgnflcfhhkaaGreatDoor
