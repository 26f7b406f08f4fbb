/-
  Chapter 16: vec.Sizes.
-/
import Derived.Test.YtfgllkflnkolhaaDoorShK
set_option linter.unusedVariables false
set_option linter.unusedSimpArgs false
namespace Go.Wk.YtfgllkflnkolhaaDoor
open Go Go.Wk Go.Proofs Go.RowKit Go.Shelf
attribute [local go_sem] Oper.semAt_some

/-- the sum of the sizes -/
def sumQ : List Int8 → Int
  | [] => 0
  | x :: r => x.toInt.natAbs + sumQ r
theorem sumQ_app : ∀ a b : List Int8, sumQ (a ++ b) = sumQ a + sumQ b
  | [], b => by simp [sumQ]
  | x :: r, b => by simp only [List.cons_append, sumQ, sumQ_app r b]; omega
theorem i8_bd' (x : Int8) : -128 ≤ x.toInt ∧ x.toInt ≤ 127 := ⟨Int8.le_toInt x, Int8.toInt_le x⟩
theorem sumQ_bd : ∀ l : List Int8, 0 ≤ sumQ l ∧ sumQ l ≤ 128 * (l.length : Int)
  | [] => by simp [sumQ]
  | x :: r => by have := sumQ_bd r; have := i8_bd' x; simp only [sumQ, List.length_cons]; omega
/-- the sum of a row's part -/
def partQ (xs : List Int8) (i j : Nat) : Int := sumQ ((xs.drop i).take j)
theorem partQ_succ (xs : List Int8) {i j : Nat} (h : i + j < xs.length) : partQ xs i (j + 1) = partQ xs i j + xs[i + j].toInt.natAbs := by
  unfold partQ
  rw [List.take_add_one, sumQ_app, List.getElem?_drop, List.getElem?_eq_getElem h]
  simp [sumQ]
theorem partQ_bd (xs : List Int8) (i j : Nat) : 0 ≤ partQ xs i j ∧ partQ xs i j ≤ 128 * (j : Int) := by
  have := sumQ_bd ((xs.drop i).take j)
  have h : ((xs.drop i).take j).length ≤ j := by simp; omega
  unfold partQ; omega
abbrev szV (xs : List Int8) (n : Nat) (k : Nat) : Value := .int .i64 (partQ xs (k * n) n)

theorem wMatrix_in (m : Nat) (A : Option Addr) (len cap : Nat) (n : Int) (w : World) (hl : len ≤ 4611686018427387904) (hn : okI n) :
    CallsIn Fence.wide m Tryd.prog 107 #[.slice A len cap, i64 n] w fun e w' => e = .returned (i64 (matK len n)) ∧ Fr no w w' :=
  callsIn_wide.2 ((wMatrix A len cap n w hl hn).2.mono fun e w' ⟨v, h1, h2, h3⟩ => ⟨by rw [h1, h2], h3⟩)
theorem wChunk_in (m : Nat) (A : Option Addr) (len cap : Nat) (n : Int) (w : World) (hn : okI n) (h1 : 1 ≤ n) :
    CallsIn Fence.wide m Tryd.prog 108 #[.slice A len cap, i64 n] w fun e w' => ∃ b c, e = .returned (.func (.func 113) #[] #[.pointer (some ⟨b, 0, none⟩), .pointer (some ⟨c, 0, none⟩)]) ∧ w.heap.size ≤ b ∧ w.heap.size ≤ c ∧
      Boxed w' b 40 (.slice A len cap) ∧ Boxed w' c 3 (i64 n) ∧ Fr no w w' :=
  callsIn_wide.2 ((wChunk A len cap n w hn h1).2.mono fun e w' ⟨v, h1, b, c, h2, h3, h4, h5, h6, h7⟩ => ⟨b, c, by rw [h1, h2], h3, h4, h5, h6, h7⟩)

theorem infoI64 : (Tryd.prog.info? 2).map (fun i => (i.zero, i.size, i.bytes)) = some (some (.int .i64 0), 1, 8) := by kernel_rfl
set_option maxRecDepth 100000 in
set_option maxHeartbeats 4000000 in
theorem sizes_in (A : Option Addr) (xs : List Int8) (cap n q : Nat) (w : World) (hA : Cs w A (xs.map i8v)) (h1 : 1 ≤ n) (hxs : xs.length = q * n) (hlen : q * n ≤ 1048576) (hcap : q * n ≤ cap) (hno : n ≤ 1048577) :
    CallsIn Fence.wide 10 Tryd.prog 92 #[.slice A (q * n) cap, .int .i64 n] w fun e w' => ∃ v, e = .returned (.tuple #[v, i64 0]) ∧ w'.ownsRow w.heap.size 2 1 v q ((List.range q).map (szV xs n)) ∧ Below w.heap.size w w' := by
  obtain ⟨i0, hi, hz0, hz1, hz2⟩ := info_parts infoI64
  have hmat : matK (q * n) (n : Int) = 0 := by
    unfold matK
    rw [if_neg (by omega), if_neg (by omega), if_pos (by rw [Int.natCast_mul]; exact Int.mul_emod_left _ _)]
  refine callsIn_of_wp_marks Tryd.func92 rfl trivial ?_ rfl
  simp only [Tryd.ntmps92, List.size_toArray, List.length_cons, List.length_nil, Nat.reduceAdd, Nat.reduceSub, Array.replicate_succ, Array.replicate_zero, List.push_toArray, List.append_toArray, List.nil_append, List.cons_append]
  gi_wp2_with (first | (refine ⟨trivial, ?_⟩; gi_at_call 107; refine (wMatrix_in _ A (q * n) cap n _ (by omega) (by omega)).mono ?_; rintro e w1 ⟨rfl, f1⟩; rw [hmat]) | (refine ⟨trivial, ?_⟩; gi_at_call 108; refine (wChunk_in _ A (q * n) cap n _ (by omega) (by omega)).mono ?_; rintro e w2 ⟨b, c, rfl, hb, hc, kb, kc, f2⟩))
  have bO : Boxed w2 w1.heap.size 68 (.slice none 0 0) := Blk.fr0 (cs := [.slice none 0 0]) (Boxed.new w1 68 (.slice none 0 0)) f2
  have hs1 := f1.size
  have hs2 := f2.size
  rw [World.size_alloc] at hb hc hs2
  have f3 : Fr no w w2 := (f1.tr (Fr.alloc _ _)).tr f2
  have hB0 : Below w.heap.size w w2 := f3.below (Nat.le_refl _) (fun _ _ => id)
  have hbl := kb.lt
  have hcl := kc.lt
  obtain ⟨b0, o0, hA'⟩ : ∃ b0 o0, 0 < q → A = some ⟨b0, o0, none⟩ := by
    by_cases h : 0 < q
    · have h0 : 0 < xs.length := by rw [hxs]; exact Nat.mul_pos h h1
      obtain ⟨g, o, e, _⟩ := hA 0 (i8v xs[0]) (by simp [List.getElem?_eq_getElem h0])
      exact ⟨g, o, fun _ => e⟩
    · exact ⟨0, 0, fun h' => absurd h' h⟩
  refine wpIn_rangeFunc_ownF rfl (by omega) (gf := 113) (lb := #[.pointer (some ⟨b, 0, none⟩), .pointer (some ⟨c, 0, none⟩)]) rfl trivial (enters_of Tryd.func113 (by kernel_rfl) rfl)
    (chunk_stops 9 (by omega) b c w.heap.size b0 o0 cap n q A hA' h1 hlen hcap w2 kb kc) (fun h k => ⟨h.1.trans k.1, k.2.1.trans h.2.1, k.2.2.trans h.2.2⟩)
    (fun W l o o' hl ho _ _ => ⟨belowK_b (w := w2) (by omega) W l o o' hl ho ‹_› ‹_›, World.putObj_heap_other (by omega), World.putObj_heap_other (by omega)⟩) (Below.refl _ _) (fun _ => rfl)
    (fun pre W => ((∃ v, Boxed W w1.heap.size 68 v ∧ W.ownsRow w.heap.size 2 1 v pre.length (pre.map fun k : Fin q => szV xs n k.1) ∧ True) ∧ Boxed W b 40 (.slice A (q * n) cap) ∧ Boxed W c 3 (.int .i64 n)) ∧ Below w.heap.size w W)
    (fun _ _ _ => False)
    (OwnFrom.and (OwnFrom.and (Own.from (holdsRow_own w.heap.size w1.heap.size 68 2 1 (fun pre : List (Fin q) => pre.length) (fun pre => pre.map fun k : Fin q => szV xs n k.1) (fun _ _ => True)) _)
      (OwnFrom.and (Own.from (fun s X Y row h hg hr => h.kept hg (fun e' => by obtain ⟨o, ho, hc⟩ := hr b e'.symm; rw [show X.heap[b]? = _ from h] at ho; cases ho; cases hc)) _) (Own.from (fun s X Y row h hg hr => h.kept hg (fun e' => by obtain ⟨o, ho, hc⟩ := hr c e'.symm; rw [show X.heap[c]? = _ from h] at ho; cases ho; cases hc)) _))) (ownFrom_below (Nat.le_refl _) (by omega)))
    (fun _ _ _ _ _ hs _ _ => hs)
    ⟨⟨⟨_, bO, World.ownsRow_nil _ _ _ _, trivial⟩, kb, kc⟩, hB0⟩
    (fun x => { tmps := #[.slice A (q * n) cap, .int .i64 n, undef, undef, .slice none 0 0, .int .i64 0, .int .i64 0, .pointer (some ⟨w1.heap.size, 0, none⟩), piece b0 o0 n x.1, undef, undef, undef, .slice A (q * n) cap, .int .i64 n, .int .i64 0, .int .i64 0, .bool false, undef, .slice A (q * n) cap, .int .i64 n, .func (.func 113) #[] #[.pointer (some ⟨b, 0, none⟩), .pointer (some ⟨c, 0, none⟩)], piece b0 o0 n x.1,
      undef, undef, undef, undef, undef, undef, undef, undef, undef, undef, undef, undef, undef, undef, undef, undef, undef, undef, undef, undef], defers := [] }) ?assign ?body ?done ?stop
  case assign =>
    intro l x W K hK
    gi_wp2
    exact hK
  case stop =>
    rintro D c pre W _ _ h _
    exact h.elim
  case done =>
    rintro D ys W hD hys ⟨⟨⟨v, hv, hrow, _⟩, _⟩, hB⟩ hK
    have hc := hv.cell
    gi_wp2
    refine ⟨by simp, .inl ⟨_, _, rfl, run_takeDeferred hK, ?_⟩⟩
    have e1 : ys.length = q := by simpa using congrArg List.length hys
    have e2 : (ys.map fun k : Fin q => szV xs n k.1) = (List.range q).map (szV xs n) := by rw [← hys, List.map_map]; rfl
    rw [e1, e2] at hrow
    have hD2 := hB0.size
    exact ⟨_, results_tmp2 rfl _ _ _, v, rfl, ownsRow_putObj hrow _ hK rfl, hB.trans (belowK_b (w := w) (Nat.le_refl _) W D _ _ (by omega) hK rfl rfl)⟩
  case body =>
    rintro l pre x W ⟨⟨⟨v, hv, hrow, _⟩, gb, gc⟩, hB⟩ hlt
    have hc := hv.cell
    gi_wp2
    have hx := x.2
    have hxn : x.1 * n + n ≤ q * n := by have := Nat.mul_le_mul_right n (show x.1 + 1 ≤ q by omega); rwa [Nat.succ_mul] at this
    have cells : ∀ j, (h : x.1 * n + j < xs.length) → W.cell? ⟨b0, o0 + x.1 * n + j, none⟩ = some (.int .i8 xs[x.1 * n + j].toInt) := fun j h => by
      obtain ⟨g, o, e, hcc⟩ := hA (x.1 * n + j) (i8v xs[x.1 * n + j]) (by simp [List.getElem?_eq_getElem h])
      rw [hA' (by omega)] at e
      simp only [Option.some.injEq, Addr.mk.injEq] at e
      obtain ⟨rfl, rfl, _⟩ := e
      rw [Nat.add_assoc]
      refine Eq.trans ?_ hcc
      have : b0 < w.heap.size := cell_lt hcc
      exact hB.cell (p := ⟨b0, o0 + (x.1 * n + j), none⟩) this
    gi_loopw [9, 24] (fun s i wr => ∃ j : Nat, j ≤ n ∧ s = .int .i64 (partQ xs (x.1 * n) j) ∧ i = .int .i64 j ∧ wr = W) (fun _ i _ => n - (intOf i).toNat)
    case atStart => exact ⟨0, Nat.zero_le _, rfl, rfl, rfl⟩
    case round =>
      obtain ⟨j, hj, rfl, rfl, rfl⟩ := hrel
      by_cases hlt2 : j < n
      · have hin : x.1 * n + j < xs.length := by omega
        have hcj := cells j hin
        obtain ⟨y, hy⟩ : ∃ y, y = xs[x.1 * n + j].toInt := ⟨_, rfl⟩
        have hyb := i8_bd' xs[x.1 * n + j]
        have hpb := partQ_bd xs (x.1 * n) j
        have hps := partQ_succ xs hin
        rw [← hy] at hcj hyb hps
        obtain ⟨s0, hs0⟩ : ∃ s0, s0 = partQ xs (x.1 * n) j := ⟨_, rfl⟩
        rw [← hs0] at hpb hps ⊢
        clear hy hs0
        gi_wp2
        refine ⟨⟨j + 1, by omega, ?_, by simp, trivial⟩, by simp [intOf]; omega⟩
        rw [hps]
        congr 1
        split <;> omega
      · obtain rfl : j = n := by omega
        have hq1 : q ≤ q * j := Nat.le_mul_of_pos_right q h1
        gi_wp2_with (gi_at_builtin; refine wpListIn_append_own _ rfl _ _ 68 rfl w.heap.size 2 i0 (.int .i64 0) 1 8 Tryd.underlying68 hi hz0 hz1 hz2 rfl (by decide) _ _ _ rfl (hrow.alloc _) ⟨wr.heap.size, 0, none⟩ 1 1 [szV xs j x.1] rfl rfl (cell_one_new _ _ _) (by simp [Value.oneCell']) (by simp only [maxLen]; omega) (by omega) (by have := hB.size; simp; omega) ?_; intro v' w3 hown' hgrow _; obtain ⟨g', cap', rfl⟩ := ownsRow_succ hown'; obtain ⟨hv1, hv2, hr2, hk2, hb2⟩ := hv.appended (by decide) hrow hB.size (by omega) hown' hgrow; have hc1 := hv1.cell; have hf1 := hv1.frozen)
        have gb2 := ((gb.alloc _).kept hgrow (gb.not_row (by decide) hrow)).other (B' := w1.heap.size) (by omega) (.slice (some ⟨g', 0, none⟩) (pre.length + 1) cap')
        have gc2 := ((gc.alloc _).kept hgrow (gc.not_row (by decide) hrow)).other (B' := w1.heap.size) (by omega) (.slice (some ⟨g', 0, none⟩) (pre.length + 1) cap')
        exact ⟨hk2, ⟨hb2, gb2.trans gb.symm, gc2.trans gc.symm⟩, ⟨⟨_, hv2, by simpa using hr2, trivial⟩, gb2, gc2⟩, hB.trans hb2⟩
/-- the sums of a matrix's rows -/
theorem wSizes (A : Option Addr) (xs : List Int8) (cap n q : Nat) (w : World) (hA : Cs w A (xs.map i8v)) (h1 : 1 ≤ n) (hxs : xs.length = q * n) (hlen : q * n ≤ 1048576) (hcap : xs.length ≤ cap) (hno : n ≤ 1048577) :
    CallsF Tryd.prog 92 [.slice A xs.length cap, i64 n] w fun r w' => ∃ B c, r = .tuple #[.slice B q c, i64 0] ∧ Cs w' B ((List.range q).map (szV xs n)) ∧ q ≤ c ∧ Fr no w w' := by
  refine ⟨⟨_, Tryd.func92, by decide, rfl⟩, ?_⟩
  rw [hxs]
  refine (callsIn_wide.1 (sizes_in A xs cap n q w hA h1 hxs hlen (by omega) hno)).mono ?_
  rintro e w' ⟨v, rfl, h, hb⟩
  refine ⟨_, rfl, ?_⟩
  have hf : Fr no w w' := ⟨hb.os, hb.tape, hb.output, hb.size, fun b hb' _ => hb.block b hb'⟩
  rcases h.2 with ⟨rfl, h0⟩ | ⟨g, c, cur, rfl, _, hg, hc, _, _, ht⟩
  · subst h0
    exact ⟨none, 0, rfl, Cs.nil _ _, Nat.le_refl _, hf⟩
  · refine ⟨_, c, rfl, ?_, hc, hf⟩
    intro j u hj
    refine ⟨g, 0, rfl, ?_⟩
    rw [← ht, List.getElem?_take] at hj
    split at hj
    · rw [Nat.zero_add]
      simp only [World.cell?, hg]
      rw [← Array.getElem?_toList]
      exact hj
    · cases hj
end Go.Wk.YtfgllkflnkolhaaDoor
