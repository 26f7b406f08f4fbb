/-
  Chapter 16: a model as an argument.
-/
import Derived.Test.YtfgllkflnkolhaaDoorShLaid
import Derived.Test.YtfgllkflnkolhaaDoorShX
set_option linter.unusedVariables false
namespace Go.Wk.YtfgllkflnkolhaaDoor
open Go Go.Wk Go.Proofs Go.Proofs.YtfgllkflnkolhaaDoor

def r8S : Sh := .sl .i8
theorem see_r8 {w : World} {cs : List Value} {x : r8S.D} (h : See w r8S cs x) : ∃ r : Rw, cs = [r.v] ∧ r.At w ∧ r.xs.length ≤ r.c ∧ r.xs = x := by
  obtain ⟨A, cap, rfl, h1, h2, h3⟩ := h
  refine ⟨⟨A, cap, x⟩, rfl, fun j u hj => ?_, h1, rfl⟩
  rw [List.getElem?_map, Option.map_eq_some_iff] at hj
  obtain ⟨y, hy, rfl⟩ := hj
  obtain ⟨b, o, xs, rfl, hl, hc, hs⟩ := h3 j y hy
  have hs : xs = [i8v y] := hs
  subst hs
  refine ⟨b, o, rfl, ?_⟩
  have := hc 0 _ rfl
  simpa [Sh.sz] using this
def midS : Sh := .st (.pr r8S (.pr r8S (.pr r8S (.pr (.int .i64) (.pr (.int .i64) (.pr (.int .i64) .un))))))
def bkSh : Sh := .st (.pr r8S (.pr r8S (.pr r8S (.pr r8S (.pr r8S (.pr r8S (.pr (.int .i64) (.pr (.int .i64) (.pr (.int .i64) (.pr (.int .i64) (.pr (.int .i64) (.pr midS .un))))))))))))
def mdS : Sh := .st (.pr shpS (.pr vocS (.pr r8S (.pr (.int .i64) (.pr r8S (.pr r8S (.pr (.sl bkSh) (.pr r8S (.pr r8S (.pr r8S (.pr (.int .i64) .un)))))))))))
theorem md_fit : fit Tryd.prog mdS 51 [] 0 = true := by kernel_rfl
/-- a row's numbers -/
abbrev xsL (l : r8S.D) : List Int8 := l
def bkOf (x : bkSh.D) : Bk (List Int8) :=
  ⟨xsL x.1, xsL x.2.1, xsL x.2.2.1, xsL x.2.2.2.1, xsL x.2.2.2.2.1, xsL x.2.2.2.2.2.1, x.2.2.2.2.2.2.1, x.2.2.2.2.2.2.2.1, x.2.2.2.2.2.2.2.2.1, x.2.2.2.2.2.2.2.2.2.1, x.2.2.2.2.2.2.2.2.2.2.1,
    xsL x.2.2.2.2.2.2.2.2.2.2.2.1.1, xsL x.2.2.2.2.2.2.2.2.2.2.2.1.2.1, xsL x.2.2.2.2.2.2.2.2.2.2.2.1.2.2.1, x.2.2.2.2.2.2.2.2.2.2.2.1.2.2.2.1, x.2.2.2.2.2.2.2.2.2.2.2.1.2.2.2.2.1, x.2.2.2.2.2.2.2.2.2.2.2.1.2.2.2.2.2.1⟩
theorem see_blk {w : World} {cs : List Value} {x : bkSh.D} (h : See w bkSh cs x) : ∃ b : Bk Rw, cs = bkC b ∧ b.At w ∧ (∀ r ∈ b.rows, r.xs.length ≤ r.c) ∧ pBk b = bkOf x := by
  obtain ⟨x1, x2, x3, x4, x5, x6, n1, n2, n3, n4, n5, ⟨y1, y2, y3, m1, m2, m3, u⟩, v⟩ := x
  obtain ⟨c1, d1, rfl, h1, c2, d2, rfl, h2, c3, d3, rfl, h3, c4, d4, rfl, h4, c5, d5, rfl, h5, c6, d6, rfl, h6, e1, f1, rfl, ⟨rfl, _⟩, e2, f2, rfl, ⟨rfl, _⟩, e3, f3, rfl, ⟨rfl, _⟩, e4, f4, rfl, ⟨rfl, _⟩, e5, f5, rfl, ⟨rfl, _⟩, c7, d7, rfl, hm, hu⟩ := h
  have hu : d7 = [] := hu
  subst hu
  obtain ⟨c8, d8, rfl, h7, c9, d9, rfl, h8, c10, d10, rfl, h9, e6, f6, rfl, ⟨rfl, _⟩, e7, f7, rfl, ⟨rfl, _⟩, e8, f8, rfl, ⟨rfl, _⟩, hu⟩ := hm
  have hu : f8 = [] := hu
  subst hu
  obtain ⟨r1, rfl, a1, l1, q1⟩ := see_r8 h1
  obtain ⟨r2, rfl, a2, l2, q2⟩ := see_r8 h2
  obtain ⟨r3, rfl, a3, l3, q3⟩ := see_r8 h3
  obtain ⟨r4, rfl, a4, l4, q4⟩ := see_r8 h4
  obtain ⟨r5, rfl, a5, l5, q5⟩ := see_r8 h5
  obtain ⟨r6, rfl, a6, l6, q6⟩ := see_r8 h6
  obtain ⟨r7, rfl, a7, l7, q7⟩ := see_r8 h7
  obtain ⟨r8, rfl, a8, l8, q8⟩ := see_r8 h8
  obtain ⟨r9, rfl, a9, l9, q9⟩ := see_r8 h9
  refine ⟨⟨r1, r2, r3, r4, r5, r6, n1, n2, n3, n4, n5, r7, r8, r9, m1, m2, m3⟩, rfl, fun r hr => ?_, fun r hr => ?_, ?_⟩
  · simp only [List.mem_cons, List.not_mem_nil, or_false] at hr
    rcases hr with rfl | rfl | rfl | rfl | rfl | rfl | rfl | rfl | rfl <;> assumption
  · simp only [List.mem_cons, List.not_mem_nil, or_false] at hr
    rcases hr with rfl | rfl | rfl | rfl | rfl | rfl | rfl | rfl | rfl <;> assumption
  · simp only [Bk.map, q1, q2, q3, q4, q5, q6, q7, q8, q9]
    rfl
theorem pick {α β : Type} {p : Nat → α → β → Prop} : ∀ {l : List α} {k : Nat}, (∀ i x, l[i]? = some x → ∃ b, p (k + i) x b) → ∃ bs : List β, bs.length = l.length ∧ ∀ i x b, l[i]? = some x → bs[i]? = some b → p (k + i) x b
  | [], k, h => ⟨[], rfl, fun i x b hx => by simp at hx⟩
  | a :: l, k, h => by
    obtain ⟨b, hb⟩ := h 0 a rfl
    obtain ⟨bs, h1, h2⟩ := pick (l := l) (k := k + 1) (p := p) (fun i x hx => by
      obtain ⟨b, hb⟩ := h (i + 1) x (by simpa using hx)
      exact ⟨b, by rwa [show k + 1 + i = k + (i + 1) by omega]⟩)
    refine ⟨b :: bs, by simp [h1], fun i x c hx hc => ?_⟩
    cases i with
    | zero => simp at hx hc; subst hx; subst hc; exact hb
    | succ i =>
      have := h2 i x c (by simpa using hx) (by simpa using hc)
      rwa [show k + 1 + i = k + (i + 1) by omega] at this
theorem see_blks {w : World} {cs : List Value} {l : List bkSh.D} (h : See w (.sl bkSh) cs l) : ∃ A c, ∃ bs : List (Bk Rw), cs = [.slice A bs.length c] ∧ Cs w A (bs.flatMap bkC) ∧ (∀ b ∈ bs, b.At w) ∧ (∀ b ∈ bs, ∀ r ∈ b.rows, r.xs.length ≤ r.c) ∧ bs.map pBk = l.map bkOf ∧ bs.length ≤ c := by
  obtain ⟨A, cap, rfl, h1, h2, h3⟩ := h
  obtain ⟨bs, e1, e2⟩ := pick (α := bkSh.D) (β := Bk Rw) (l := l) (k := 0) (p := fun i x b => (∃ g o, A = some ⟨g, o, none⟩ ∧ ∀ j u, (bkC b)[j]? = some u → w.cell? ⟨g, o + i * 17 + j, none⟩ = some u) ∧ b.At w ∧ (∀ r ∈ b.rows, r.xs.length ≤ r.c) ∧ pBk b = bkOf x) (fun i x hx => by
    obtain ⟨g, o, xs, rfl, hl, hc, hs⟩ := h3 i x hx
    obtain ⟨b, rfl, a1, a2, a3⟩ := see_blk hs
    refine ⟨b, ⟨g, o, rfl, fun j u hj => ?_⟩, a1, a2, a3⟩
    rw [Nat.zero_add]
    exact hc j u hj)
  have hat : ∀ i (hi : i < bs.length), _ := fun i hi => e2 i (l[i]'(by rw [← e1]; exact hi)) bs[i] (List.getElem?_eq_getElem (by rw [← e1]; exact hi)) (List.getElem?_eq_getElem hi)
  refine ⟨A, cap, bs, by rw [e1], fun j u hj => ?_, fun b hb => ?_, fun b hb => ?_, ?_, by rw [e1]; exact h1⟩
  · have hjl := (List.getElem?_eq_some_iff.1 hj).1
    rw [flat_len bkC_len] at hjl
    obtain ⟨i, k, hk, rfl⟩ : ∃ i k, k < 17 ∧ j = i * 17 + k := ⟨j / 17, j % 17, Nat.mod_lt _ (by omega), by omega⟩
    have hi : i < bs.length := by omega
    obtain ⟨⟨g, o, rfl, hc⟩, _⟩ := hat i hi
    refine ⟨g, o, rfl, ?_⟩
    have hk2 : (bkC bs[i])[k]? = some ((bkC bs[i])[k]'(by rw [bkC_len]; exact hk)) := List.getElem?_eq_getElem _
    have h7 := flat_at bkC_len (List.getElem?_eq_getElem hi) hk2
    rw [h7] at hj
    cases hj
    have := hc k _ hk2
    rw [Nat.zero_add, Nat.add_assoc] at this
    exact this
  · obtain ⟨i, hi, rfl⟩ := List.getElem_of_mem hb
    exact (hat i hi).2.1
  · obtain ⟨i, hi, rfl⟩ := List.getElem_of_mem hb
    exact (hat i hi).2.2.1
  · refine List.ext_getElem (by simp [e1]) fun i h h' => ?_
    have hi : i < bs.length := by simpa using h
    rw [List.getElem_map, List.getElem_map]
    exact (hat i hi).2.2.2
def sOfM (x : shpS.D) : Shp := ⟨x.1, x.2.1, x.2.2.1, x.2.2.2.1, x.2.2.2.2.1, x.2.2.2.2.2.1⟩
/-- what is asked of a model's rows' room -/
structure LM.Room (m : LM) : Prop where
  rows : ∀ r ∈ m.rows, r.xs.length ≤ r.c
  bs : ∀ b ∈ m.bs, ∀ r ∈ b.rows, r.xs.length ≤ r.c
  bl : m.bs.length ≤ m.bc
theorem LM.Room.cap {m : LM} (h : m.Room) : m.Cap := fun b hb => ⟨h.bs b hb _ (by simp), h.bs b hb _ (by simp)⟩
theorem see_md {w : World} {cs : List Value} {x : mdS.D} (h : See w mdS cs x) : ∃ m : LM, cs = lmC m ∧ m.At w ∧ m.Room ∧ m.V = vocOf x.2.1 ∧ m.bs.map pBk = List.map (α := bkSh.D) bkOf x.2.2.2.2.2.2.1 ∧
    (m.e.xs = xsL x.2.2.1 ∧ m.cos.xs = xsL x.2.2.2.2.1 ∧ m.sin.xs = xsL x.2.2.2.2.2.1 ∧ m.bend.xs = xsL x.2.2.2.2.2.2.2.1 ∧ m.gain.xs = xsL x.2.2.2.2.2.2.2.2.1 ∧ m.un.xs = xsL x.2.2.2.2.2.2.2.2.2.1) := by
  obtain ⟨s, V, x1, n1, x2, x3, bl, x4, x5, x6, n2, u⟩ := x
  obtain ⟨c1, d1, rfl, hs, c2, d2, rfl, hV, c3, d3, rfl, h1, e1, f1, rfl, ⟨rfl, _⟩, c4, d4, rfl, h2, c5, d5, rfl, h3, c6, d6, rfl, hb, c7, d7, rfl, h4, c8, d8, rfl, h5, c9, d9, rfl, h6, e2, f2, rfl, ⟨rfl, _⟩, hu⟩ := h
  have hu : f2 = [] := hu
  subst hu
  obtain ⟨s', rfl⟩ := see_shp hs
  obtain ⟨tA, tc, mA, mc, rfl, hvo⟩ := see_voc hV
  obtain ⟨r1, rfl, a1, l1, q1⟩ := see_r8 h1
  obtain ⟨r2, rfl, a2, l2, q2⟩ := see_r8 h2
  obtain ⟨r3, rfl, a3, l3, q3⟩ := see_r8 h3
  obtain ⟨r4, rfl, a4, l4, q4⟩ := see_r8 h4
  obtain ⟨r5, rfl, a5, l5, q5⟩ := see_r8 h5
  obtain ⟨r6, rfl, a6, l6, q6⟩ := see_r8 h6
  obtain ⟨bA, bc, bs, rfl, hcs, hat, hrm, hbe, hbc⟩ := see_blks hb
  refine ⟨⟨s', tA, tc, mA, mc, vocOf V, r1, n1, r2, r3, bA, bc, bs, r4, r5, r6, n2⟩, rfl, ⟨hvo, fun r hr => ?_, hcs, hat⟩, ⟨fun r hr => ?_, hrm, hbc⟩, rfl, hbe, q1, q2, q3, q4, q5, q6⟩
  · simp only [List.mem_cons, List.not_mem_nil, or_false] at hr
    rcases hr with rfl | rfl | rfl | rfl | rfl | rfl <;> assumption
  · simp only [List.mem_cons, List.not_mem_nil, or_false] at hr
    rcases hr with rfl | rfl | rfl | rfl | rfl | rfl <;> assumption
theorem r8_vol' : ∀ l : r8S.D, r8S.vol l = (xsL l).length + 1
  | [] => rfl
  | x :: l => by
    have h := r8_vol' l
    have e : r8S.vol (x :: l) = 1 + r8S.vol l := rfl
    rw [e, h]
    show 1 + ((xsL l).length + 1) = (xsL l).length + 1 + 1
    omega
theorem bk_vol (x : bkSh.D) : ∀ r ∈ (bkOf x).rows, r.length ≤ bkSh.vol x := by
  obtain ⟨x1, x2, x3, x4, x5, x6, n1, n2, n3, n4, n5, ⟨y1, y2, y3, m1, m2, m3, u⟩, v⟩ := x
  have e : bkSh.vol (x1, x2, x3, x4, x5, x6, n1, n2, n3, n4, n5, (y1, y2, y3, m1, m2, m3, u), v) = (r8S.vol x1 + (r8S.vol x2 + (r8S.vol x3 + (r8S.vol x4 + (r8S.vol x5 + (r8S.vol x6 + (1 + (1 + (1 + (1 + (1 + (((r8S.vol y1 + (r8S.vol y2 + (r8S.vol y3 + (1 + (1 + (1 + 0))))))) + 1 + 0)))))))))))) + 1 := rfl
  have z := r8_vol'
  rw [e, z x1, z x2, z x3, z x4, z x5, z x6, z y1, z y2, z y3]
  intro r hr
  have hr : r ∈ [xsL x1, xsL x6, xsL x2, xsL x3, xsL x4, xsL x5, xsL y1, xsL y2, xsL y3] := hr
  simp only [List.mem_cons, List.not_mem_nil, or_false] at hr
  rcases hr with h | h | h | h | h | h | h | h | h <;> (rw [h]; omega)
theorem bks_vol : ∀ l : List bkSh.D, 2 * l.length ≤ (List.map (β := Nat) bkSh.vol l).sum ∧ ∀ x ∈ l, bkSh.vol x ≤ (List.map (β := Nat) bkSh.vol l).sum
  | [] => ⟨Nat.zero_le _, fun x h => by cases h⟩
  | y :: l => by
    have ih := bks_vol l
    rw [List.map_cons, List.sum_cons]
    have h1 : 2 ≤ bkSh.vol y := Nat.succ_le_succ (Nat.le_trans (show 1 ≤ r8S.vol y.1 from Nat.succ_le_succ (Nat.zero_le _)) (Nat.le_add_right _ _))
    refine ⟨by rw [List.length_cons]; omega, fun x hx => ?_⟩
    rcases List.mem_cons.1 hx with rfl | hx
    · omega
    · have := ih.2 x hx; omega
theorem md_small {H : Type} {x : mdS.D} {d : DataW H} (h : Dt mdS x [d]) {k : Nat} (hk : Rows.uptoBulkAll [d] ≤ k) (hm : k ≤ 1048576) {m : LM} (hV : m.V = vocOf x.2.1) (hb : m.bs.map pBk = List.map (α := bkSh.D) bkOf x.2.2.2.2.2.2.1)
    (hx : m.e.xs = xsL x.2.2.1 ∧ m.cos.xs = xsL x.2.2.2.2.1 ∧ m.sin.xs = xsL x.2.2.2.2.2.1 ∧ m.bend.xs = xsL x.2.2.2.2.2.2.2.1 ∧ m.gain.xs = xsL x.2.2.2.2.2.2.2.2.1 ∧ m.un.xs = xsL x.2.2.2.2.2.2.2.2.2.1) : m.Sm := by
  have h1 := bulk_ge mdS x [d] h
  obtain ⟨s, V, x1, n1, x2, x3, bl, x4, x5, x6, n2, u⟩ := x
  obtain ⟨q1, q2, q3, q4, q5, q6⟩ := hx
  obtain ⟨ts, ms, uu⟩ := V
  have e : mdS.vol (s, (ts, ms, uu), x1, n1, x2, x3, bl, x4, x5, x6, n2, u) = (shpS.vol s + (((volT ts + 1) + (((List.map (β := Nat) mrgS.vol ms).sum + 1) + 0) + 1) + (r8S.vol x1 + (1 + (r8S.vol x2 + (r8S.vol x3 + (((List.map (β := Nat) bkSh.vol bl).sum + 1) + (r8S.vol x4 + (r8S.vol x5 + (r8S.vol x6 + (1 + 0))))))))))) + 1 := rfl
  have hbv := bks_vol bl
  have hT := volT_ge ts
  have hM := vol_mrgs ms
  have z := r8_vol'
  rw [e, z x1, z x2, z x3, z x4, z x5, z x6] at h1
  refine ⟨fun r hr => ?_, fun b hb' => ?_, ?_, ?_⟩
  · simp only [List.mem_cons, List.not_mem_nil, or_false] at hr
    rcases hr with rfl | rfl | rfl | rfl | rfl | rfl
    · rw [q1]; show (xsL x1).length ≤ _; omega
    · rw [q2]; show (xsL x2).length ≤ _; omega
    · rw [q3]; show (xsL x3).length ≤ _; omega
    · rw [q4]; show (xsL x4).length ≤ _; omega
    · rw [q5]; show (xsL x5).length ≤ _; omega
    · rw [q6]; show (xsL x6).length ≤ _; omega
  · have hp : pBk b ∈ List.map (α := bkSh.D) bkOf bl := by
      have : pBk b ∈ m.bs.map pBk := List.mem_map_of_mem hb'
      rw [hb] at this; exact this
    obtain ⟨y, hy, ey⟩ := List.mem_map.1 hp
    have hy1 := hbv.2 y hy
    have hy2 := bk_vol y
    rw [ey] at hy2
    intro r hr
    have : r.xs ∈ (pBk b).rows := by
      simp only [List.mem_cons, List.not_mem_nil, or_false] at hr
      rcases hr with rfl | rfl | rfl | rfl | rfl | rfl | rfl | rfl | rfl <;> simp [Bk.map]
    have := hy2 _ this
    omega
  · have := congrArg List.length hb
    have this : m.bs.length = List.length (α := bkSh.D) bl := by rw [← List.length_map (f := pBk), this]; exact List.length_map (α := bkSh.D) _
    have := hbv.1
    omega
  · rw [hV]
    refine ⟨?_, fun t ht => ?_, ?_⟩
    · show List.length (α := List UInt8) ts ≤ _
      omega
    · have := hT.2 t ht; omega
    · show (List.map (α := mrgS.D) mOf ms).length ≤ _
      omega
end Go.Wk.YtfgllkflnkolhaaDoor
