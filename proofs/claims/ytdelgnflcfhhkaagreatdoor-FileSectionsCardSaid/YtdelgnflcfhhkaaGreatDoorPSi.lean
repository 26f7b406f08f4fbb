/-
  Taken for this seat out of ShI.
-/
import Derived.Test.YtdelgnflcfhhkaaGreatDoorPShE
import Derived.RangeFuncNested
import Derived.RangeFuncBound
import Derived.RangeFuncCalls
import Derived.RangeFuncLeaves
import Derived.RangeFuncBox
import Derived.Shelf.Abstract
import Derived.Shelf.RegionOpen
import Derived.OwnWalkIn
import Derived.TacticsInMore
import Derived.LoopNIn
import Derived.LoopIn
import Derived.Maps.AppendAt
set_option linter.unusedVariables false
namespace Go.Wk.YtdelgnflcfhhkaaGreatDoor
open Go Go.Wk Go.Proofs
/-- the model of nothing -/
def zB : Rw := ⟨none, 0, []⟩
def zM : LM := ⟨⟨0, 0, 0, 0, 0, 0⟩, none, 0, none, 0, ⟨[], []⟩, zB, 0, zB, zB, none, 0, [], zB, zB, zB, 0⟩
theorem own1 {w : World} {e sz n : Nat} {v : Value} {xs : List Value} (h : Own w e sz v n xs) : v.oneCell' = true := by
  rcases h.2 with ⟨rfl, _⟩ | ⟨g, cap, cur, rfl, _⟩ <;> rfl
abbrev nilS : Value := .slice none 0 0
/-- the cells of a model under way -/
abbrev smC (n c d k l h : Nat) (tv mv e cos sin bv bend gain un : Value) (ls : Int) : List Value := [i64 n, i64 c, i64 d, i64 k, i64 l, i64 h, tv, mv, e, i64 2, cos, sin, bv, bend, gain, un, i64 ls]
/-- the cells of a block under way -/
abbrev bkX (d : Nat) (g1 q k v o g2 ga up dn : Value) (gs us ds : Int) : List Value := [g1, q, k, v, o, g2, i64 (7 + levQ d), i64 (7 + levQ d), i64 (7 + levQ d), i64 (4 + levQ d), i64 3, ga, up, dn, i64 gs, i64 us, i64 ds]
theorem seed_eq (n : Int) : IntKind.u64.wrap n = (seed64 n : Nat) := by rw [wrap_u64]; unfold seed64; omega
end Go.Wk.YtdelgnflcfhhkaaGreatDoor
namespace Go.Wk.YtdelgnflcfhhkaaGreatDoor
open Go Go.Wk Go.Proofs
def matK (len : Nat) (n : Int) : Int := if 1048576 < len then 81 else if n < 1 then 80 else if (len : Int) % n = 0 then 0 else 80
set_option maxHeartbeats 1000000 in
theorem wMatrix (A : Option Addr) (len cap : Nat) (n : Int) (w : World) (hl : len ≤ 4611686018427387904) (hn : okI n) :
    CallsF Tryz.prog 158 [.slice A len cap, i64 n] w fun r w' => r = i64 (matK len n) ∧ Fr no w w' := by
  unfold matK
  refine callsF Tryz.func158 rfl rfl (by decide) rfl ?_
  refine sC [] rfl ?_; refine sC [] rfl ?_; refine sC [] rfl ?_; refine sD [] rfl ?_
  refine ev_condD rfl (fun c => ?_) (fun c => ?_)
  · refine sA [] rfl ?_
    rw [if_pos (by omega)]
    exact ret1 (.inr rfl) rfl rfl ⟨rfl, Fr.refl _ _⟩
  · refine sC [] rfl ?_; refine sD [] rfl ?_
    rw [if_neg (by omega)]
    refine ev_guardD rfl rfl (fun c2 => ?_) (fun c2 => ?_)
    · refine sA [] rfl ?_
      rw [if_pos c2]
      exact ret1 (.inr rfl) rfl rfl ⟨rfl, Fr.refl _ _⟩
    · refine sA [] rfl ?_; refine ev_rem rfl rfl rfl rfl (by omega) (by omega) ?_; refine sC [] rfl ?_
      rw [if_neg c2]
      refine ev_condD rfl (fun c3 => ?_) (fun c3 => ?_)
      · refine sA [] rfl ?_
        rw [if_neg c3]
        exact ret1 (.inr rfl) rfl rfl ⟨rfl, Fr.refl _ _⟩
      · refine sA [] rfl ?_
        rw [if_pos (by omega)]
        exact ret1 (.inr rfl) rfl rfl ⟨rfl, Fr.refl _ _⟩
set_option maxHeartbeats 1000000 in
theorem wChunk (A : Option Addr) (len cap : Nat) (n : Int) (w : World) (hn : okI n) (h1 : 1 ≤ n) :
    CallsF Tryz.prog 159 [.slice A len cap, i64 n] w fun r w' => ∃ b c, r = .func (.func 162) #[] #[.pointer (some ⟨b, 0, none⟩), .pointer (some ⟨c, 0, none⟩)] ∧ w.heap.size ≤ b ∧ w.heap.size ≤ c ∧
      Blk w' b [.slice A len cap] 44 ∧ Blk w' c [i64 n] 3 ∧ Fr no w w' := by
  refine callsF Tryz.func159 rfl rfl (by decide) rfl ?_
  refine sA [] rfl ?_
  refine ev_box rfl rfl rfl fun b w1 hb kb f1 => ?_
  refine ev_box rfl rfl rfl fun c w2 hc kc f2 => ?_
  have kb2 := kb.fr0 f2
  have hcc : w2.cell? ⟨c, 0, none⟩ = some (i64 n) := Blk.cell (cs := [i64 n]) kc rfl
  have h12 := f1.size
  refine sA [] rfl ?_; refine ev_load rfl rfl tabOk rfl rfl ‹_› ?_; refine sD [] rfl ?_; refine sD [] rfl ?_
  rw [show decide (n < 1) = false from decide_eq_false (by omega)]
  refine sA [] rfl ?_
  refine ev_y rfl rfl (v := .func (.func 162) #[] #[.pointer (some ⟨b, 0, none⟩), .pointer (some ⟨c, 0, none⟩)]) (fun a hA w' e => by
    simp only [execOp, hA.ev (show ev _ (.tmp 2) = some _ from rfl), hA.ev (show ev _ (.tmp 3) = some _ from rfl), List.map_toArray, List.map_cons, List.map_nil]; rfl) ?_
  refine sA [] rfl ?_
  exact ret1 (.inr rfl) rfl rfl ⟨b, c, rfl, hb, by omega, kb2, kc, f1.tr f2⟩
end Go.Wk.YtdelgnflcfhhkaaGreatDoor
set_option linter.unusedSimpArgs false
namespace Go.Wk.YtdelgnflcfhhkaaGreatDoor
open Go Go.Wk Go.Proofs Go.RowKit Go.Shelf
attribute [local go_sem] Oper.semAt_some
/-- the k-th piece of a row -/
abbrev piece (b off n : Nat) (k : Nat) : Value := .slice (some ⟨b, off + k * n, none⟩) n n
/-- what a round keeps -/
def KpC (n₀ b c : Nat) (W W' : World) : Prop := Below n₀ W W' ∧ W'.heap[b]? = W.heap[b]? ∧ W'.heap[c]? = W.heap[c]?
theorem cell_same {W W' : World} {b o : Nat} (h : W'.heap[b]? = W.heap[b]?) : W'.cell? ⟨b, o, none⟩ = W.cell? ⟨b, o, none⟩ := by simp [World.cell?, h]
set_option maxRecDepth 100000 in
set_option maxHeartbeats 4000000 in
theorem chunk1_in {n₁ : Nat} (m : Nat) (hm : 1 ≤ m) (l Bs Bn n₀ b off cap n q : Nat) (A : Option Addr) (hA : 0 < q → A = some ⟨b, off, none⟩) (h1 : 1 ≤ n) (hlen : q * n ≤ 1048576) (hcap : q * n ≤ cap) (J Jx : List Nat → World → Prop)
    (hJ : AbidesFrom n₁ J) (hY : ∀ pre x W, J pre W → pre.length < q → x < q → YieldAt Fence.wide (m - 1) Tryz.prog l #[piece b off n x] W fun e W' =>
      (e = .returned (.bool true) ∧ J (pre ++ [x]) W' ∧ KpC n₀ Bs Bn W W') ∨ (e = .returned (.bool false) ∧ Jx (pre ++ [x]) W'))
    (W : World) (hBs : W.cell? ⟨Bs, 0, none⟩ = some (.slice A (q * n) cap)) (hBn : W.cell? ⟨Bn, 0, none⟩ = some (.int .i64 n)) (h0 : J [] W) :
    CallsIn Fence.wide m Tryz.prog 162 #[.func (.yield l) #[] #[], .pointer (some ⟨Bs, 0, none⟩), .pointer (some ⟨Bn, 0, none⟩)] W fun e W' => (∃ v, e = .returned v) ∧
      ((∃ ys, ys = List.range q ∧ J ys W') ∨ (∃ pre, True ∧ Jx pre W')) := by
  refine callsIn_of_wp Tryz.func162 rfl trivial ?_ rfl
  simp only [Tryz.ntmps162, List.size_toArray, List.length_cons, List.length_nil, Nat.reduceAdd, Nat.reduceSub, Array.replicate_succ, Array.replicate_zero, List.push_toArray, List.append_toArray, List.nil_append, List.cons_append]
  gi_wp2
  gi_loopw [4] (fun i wr => ∃ k : Nat, k ≤ q ∧ i = .int .i64 ((k * n : Nat) : Int) ∧ J (List.range k) wr ∧ wr.cell? ⟨Bs, 0, none⟩ = some (.slice A (q * n) cap) ∧ wr.cell? ⟨Bn, 0, none⟩ = some (.int .i64 n))
    (fun i _ => q * n - (intOf i).toNat)
  case atStart => exact ⟨0, Nat.zero_le _, by simp, h0, hBs, hBn⟩
  case round =>
    obtain ⟨k, hk, rfl, hJs, cS, cN⟩ := hrel
    by_cases hlt : k < q
    · have e1 : k * n + n ≤ q * n := by have := Nat.mul_le_mul_right n (show k + 1 ≤ q by omega); rwa [Nat.succ_mul] at this
      obtain rfl := hA (by omega)
      have hJd : J (List.range k) wr.drew := hJ _ wr wr.drew none hJs ⟨rfl, rfl, rfl, Nat.le_refl _, fun _ _ _ => rfl⟩ (fun r e => by cases e)
      obtain ⟨fn, tmps, assign, body, hy, hR⟩ := hY _ k wr.drew hJd (by simpa using hlt) hlt
      dsimp only [piece] at hy
      gi_wp2
      gi_region
      gi_wp2
      refine hR.mono ?_
      rintro e W3 (⟨rfl, hJ3, hk3⟩ | ⟨rfl, hJx3⟩)
      · have cN3 : W3.cell? ⟨Bn, 0, none⟩ = some (.int .i64 n) := (cell_same hk3.2.2).trans cN
        have cS3 : W3.cell? ⟨Bs, 0, none⟩ = some (.slice (some ⟨b, off, none⟩) (q * n) cap) := (cell_same hk3.2.1).trans cS
        gi_wp2
        go_roundw
        case rel => exact ⟨k + 1, by omega, by rw [Nat.succ_mul]; simp, by rw [List.range_succ]; exact hJ3, cS3, cN3⟩
        case measure =>
          have : 0 < n := h1
          simp [intOf]
          omega
      · gi_wp2
        refine bodyPost_ret (results_none rfl _ _ _) rfl ?_
        exact ⟨⟨_, rfl⟩, .inr ⟨_, trivial, hJx3⟩⟩
    · obtain rfl : k = q := by omega
      gi_wp2
      go_end0
      exact ⟨⟨_, rfl⟩, .inl ⟨_, rfl, hJs⟩⟩
theorem chunk_stops (m : Nat) (hm : 1 ≤ m) (Bs Bn n₀ b off cap n q : Nat) (A : Option Addr) (hA : 0 < q → A = some ⟨b, off, none⟩) (h1 : 1 ≤ n) (hlen : q * n ≤ 1048576) (hcap : q * n ≤ cap)
    (w : World) (hBs : Boxed w Bs 44 (.slice A (q * n) cap)) (hBn : Boxed w Bn 3 (.int .i64 n)) :
    SeqStopsK Fence.wide m Tryz.prog 162 #[.pointer (some ⟨Bs, 0, none⟩), .pointer (some ⟨Bn, 0, none⟩)] (fun k : Fin q => #[piece b off n k.1]) (KpC n₀ Bs Bn) (fun ys => ys.map (·.1) = List.range q) (fun _ => True) q w := by
  intro l J Jx W hW hJ hJx hY h0
  have c1 : Boxed W Bs 44 (.slice A (q * n) cap) := (hW.block _ hBs.lt).trans hBs
  have c2 : Boxed W Bn 3 (.int .i64 n) := (hW.block _ hBn.lt).trans hBn
  refine (chunk1_in (n₁ := W.heap.size) m hm l Bs Bn n₀ b off cap n q A hA h1 hlen hcap (fun pre W => ∃ pre' : List (Fin q), pre'.map (·.1) = pre ∧ J pre' W) (fun pre W => ∃ pre' : List (Fin q), pre'.map (·.1) = pre ∧ Jx pre' W)
    (fun s A B row hs hg hr => by obtain ⟨p, e, hp⟩ := hs; exact ⟨p, e, hJ p A B row hp hg hr⟩) ?_ W c1.cell c2.cell ⟨[], rfl, h0⟩).mono ?_
  · rintro pre x W1 ⟨p, rfl, hp⟩ hl hx
    have := hY p ⟨x, hx⟩ W1 hp (by simpa using hl)
    refine YieldAt.mono this ?_
    rintro e W' (⟨h1, h2, h3⟩ | ⟨h1, h2⟩)
    · exact .inl ⟨h1, ⟨p ++ [⟨x, hx⟩], by simp, h2⟩, h3⟩
    · exact .inr ⟨h1, ⟨p ++ [⟨x, hx⟩], by simp, h2⟩⟩
  · rintro e W' ⟨h1, (⟨ys, rfl, p, hp, h2⟩ | ⟨ys, _, p, hp, h2⟩)⟩
    · exact ⟨h1, .inl ⟨p, hp, h2⟩⟩
    · exact ⟨h1, .inr ⟨p, trivial, h2⟩⟩
end Go.Wk.YtdelgnflcfhhkaaGreatDoor
set_option linter.unusedSimpArgs false
namespace Go.Wk.YtdelgnflcfhhkaaGreatDoor
open Go Go.Wk Go.Proofs Go.RowKit Go.Shelf
attribute [local go_sem] Oper.semAt_some
/-- the sum of the sizes -/
def sumQ : List Int8 → Int
  | [] => 0
  | x :: r => x.toInt.natAbs + sumQ r
theorem sumQ_app : ∀ a b : List Int8, sumQ (a ++ b) = sumQ a + sumQ b
  | [], b => by simp [sumQ]
  | x :: r, b => by simp only [List.cons_append, sumQ, sumQ_app r b]; omega
theorem i8_bd' (x : Int8) : -128 ≤ x.toInt ∧ x.toInt ≤ 127 := ⟨Int8.le_toInt x, Int8.toInt_le x⟩
theorem sumQ_bd : ∀ l : List Int8, 0 ≤ sumQ l ∧ sumQ l ≤ 128 * (l.length : Int)
  | [] => by simp [sumQ]
  | x :: r => by have := sumQ_bd r; have := i8_bd' x; simp only [sumQ, List.length_cons]; omega
/-- the sum of a row's part -/
def partQ (xs : List Int8) (i j : Nat) : Int := sumQ ((xs.drop i).take j)
theorem partQ_succ (xs : List Int8) {i j : Nat} (h : i + j < xs.length) : partQ xs i (j + 1) = partQ xs i j + xs[i + j].toInt.natAbs := by
  unfold partQ
  rw [List.take_add_one, sumQ_app, List.getElem?_drop, List.getElem?_eq_getElem h]
  simp [sumQ]
theorem partQ_bd (xs : List Int8) (i j : Nat) : 0 ≤ partQ xs i j ∧ partQ xs i j ≤ 128 * (j : Int) := by
  have := sumQ_bd ((xs.drop i).take j)
  have h : ((xs.drop i).take j).length ≤ j := by simp; omega
  unfold partQ; omega
abbrev szV (xs : List Int8) (n : Nat) (k : Nat) : Value := .int .i64 (partQ xs (k * n) n)
theorem wMatrix_in (m : Nat) (A : Option Addr) (len cap : Nat) (n : Int) (w : World) (hl : len ≤ 4611686018427387904) (hn : okI n) :
    CallsIn Fence.wide m Tryz.prog 158 #[.slice A len cap, i64 n] w fun e w' => e = .returned (i64 (matK len n)) ∧ Fr no w w' :=
  callsIn_wide.2 ((wMatrix A len cap n w hl hn).2.mono fun e w' ⟨v, h1, h2, h3⟩ => ⟨by rw [h1, h2], h3⟩)
theorem wChunk_in (m : Nat) (A : Option Addr) (len cap : Nat) (n : Int) (w : World) (hn : okI n) (h1 : 1 ≤ n) :
    CallsIn Fence.wide m Tryz.prog 159 #[.slice A len cap, i64 n] w fun e w' => ∃ b c, e = .returned (.func (.func 162) #[] #[.pointer (some ⟨b, 0, none⟩), .pointer (some ⟨c, 0, none⟩)]) ∧ w.heap.size ≤ b ∧ w.heap.size ≤ c ∧
      Boxed w' b 44 (.slice A len cap) ∧ Boxed w' c 3 (i64 n) ∧ Fr no w w' :=
  callsIn_wide.2 ((wChunk A len cap n w hn h1).2.mono fun e w' ⟨v, h1, b, c, h2, h3, h4, h5, h6, h7⟩ => ⟨b, c, by rw [h1, h2], h3, h4, h5, h6, h7⟩)
theorem infoI64 : (Tryz.prog.info? 2).map (fun i => (i.zero, i.size, i.bytes)) = some (some (.int .i64 0), 1, 8) := by kernel_rfl
set_option maxRecDepth 100000 in
set_option maxHeartbeats 4000000 in
theorem sizes_in (A : Option Addr) (xs : List Int8) (cap n q : Nat) (w : World) (hA : Cs w A (xs.map i8v)) (h1 : 1 ≤ n) (hxs : xs.length = q * n) (hlen : q * n ≤ 1048576) (hcap : q * n ≤ cap) (hno : n ≤ 1048577) :
    CallsIn Fence.wide 10 Tryz.prog 141 #[.slice A (q * n) cap, .int .i64 n] w fun e w' => ∃ v, e = .returned (.tuple #[v, i64 0]) ∧ w'.ownsRow w.heap.size 2 1 v q ((List.range q).map (szV xs n)) ∧ Below w.heap.size w w' := by
  obtain ⟨i0, hi, hz0, hz1, hz2⟩ := info_parts infoI64
  have hmat : matK (q * n) (n : Int) = 0 := by
    unfold matK
    rw [if_neg (by omega), if_neg (by omega), if_pos (by rw [Int.natCast_mul]; exact Int.mul_emod_left _ _)]
  refine callsIn_of_wp_marks Tryz.func141 rfl trivial ?_ rfl
  simp only [Tryz.ntmps141, List.size_toArray, List.length_cons, List.length_nil, Nat.reduceAdd, Nat.reduceSub, Array.replicate_succ, Array.replicate_zero, List.push_toArray, List.append_toArray, List.nil_append, List.cons_append]
  gi_wp2_with (first | (refine ⟨trivial, ?_⟩; gi_at_call 158; refine (wMatrix_in _ A (q * n) cap n _ (by omega) (by omega)).mono ?_; rintro e w1 ⟨rfl, f1⟩; rw [hmat]) | (refine ⟨trivial, ?_⟩; gi_at_call 159; refine (wChunk_in _ A (q * n) cap n _ (by omega) (by omega)).mono ?_; rintro e w2 ⟨b, c, rfl, hb, hc, kb, kc, f2⟩))
  have bO : Boxed w2 w1.heap.size 183 (.slice none 0 0) := Blk.fr0 (cs := [.slice none 0 0]) (Boxed.new w1 183 (.slice none 0 0)) f2
  have hs1 := f1.size
  have hs2 := f2.size
  rw [World.size_alloc] at hb hc hs2
  have f3 : Fr no w w2 := (f1.tr (Fr.alloc _ _)).tr f2
  have hB0 : Below w.heap.size w w2 := f3.below (Nat.le_refl _) (fun _ _ => id)
  have hbl := kb.lt
  have hcl := kc.lt
  obtain ⟨b0, o0, hA'⟩ : ∃ b0 o0, 0 < q → A = some ⟨b0, o0, none⟩ := by
    by_cases h : 0 < q
    · have h0 : 0 < xs.length := by rw [hxs]; exact Nat.mul_pos h h1
      obtain ⟨g, o, e, _⟩ := hA 0 (i8v xs[0]) (by simp [List.getElem?_eq_getElem h0])
      exact ⟨g, o, fun _ => e⟩
    · exact ⟨0, 0, fun h' => absurd h' h⟩
  refine wpIn_rangeFunc_ownF rfl (by omega) (gf := 162) (lb := #[.pointer (some ⟨b, 0, none⟩), .pointer (some ⟨c, 0, none⟩)]) rfl trivial (enters_of Tryz.func162 (by kernel_rfl) rfl)
    (chunk_stops 9 (by omega) b c w.heap.size b0 o0 cap n q A hA' h1 hlen hcap w2 kb kc) (fun h k => ⟨h.1.trans k.1, k.2.1.trans h.2.1, k.2.2.trans h.2.2⟩)
    (fun W l o o' hl ho _ _ => ⟨belowK_b (w := w2) (by omega) W l o o' hl ho ‹_› ‹_›, World.putObj_heap_other (by omega), World.putObj_heap_other (by omega)⟩) (Below.refl _ _) (fun _ => rfl)
    (fun pre W => ((∃ v, Boxed W w1.heap.size 183 v ∧ W.ownsRow w.heap.size 2 1 v pre.length (pre.map fun k : Fin q => szV xs n k.1) ∧ True) ∧ Boxed W b 44 (.slice A (q * n) cap) ∧ Boxed W c 3 (.int .i64 n)) ∧ Below w.heap.size w W)
    (fun _ _ _ => False)
    (OwnFrom.and (OwnFrom.and (Own.from (holdsRow_own w.heap.size w1.heap.size 183 2 1 (fun pre : List (Fin q) => pre.length) (fun pre => pre.map fun k : Fin q => szV xs n k.1) (fun _ _ => True)) _)
      (OwnFrom.and (Own.from (fun s X Y row h hg hr => h.kept hg (fun e' => by obtain ⟨o, ho, hc⟩ := hr b e'.symm; rw [show X.heap[b]? = _ from h] at ho; cases ho; cases hc)) _) (Own.from (fun s X Y row h hg hr => h.kept hg (fun e' => by obtain ⟨o, ho, hc⟩ := hr c e'.symm; rw [show X.heap[c]? = _ from h] at ho; cases ho; cases hc)) _))) (ownFrom_below (Nat.le_refl _) (by omega)))
    (fun _ _ _ _ _ hs _ _ => hs)
    ⟨⟨⟨_, bO, World.ownsRow_nil _ _ _ _, trivial⟩, kb, kc⟩, hB0⟩
    (fun x => { tmps := #[.slice A (q * n) cap, .int .i64 n, undef, undef, .slice none 0 0, .int .i64 0, .int .i64 0, .pointer (some ⟨w1.heap.size, 0, none⟩), piece b0 o0 n x.1, undef, undef, undef, .slice A (q * n) cap, .int .i64 n, .int .i64 0, .int .i64 0, .bool false, undef, .slice A (q * n) cap, .int .i64 n, .func (.func 162) #[] #[.pointer (some ⟨b, 0, none⟩), .pointer (some ⟨c, 0, none⟩)], piece b0 o0 n x.1,
      undef, undef, undef, undef, undef, undef, undef, undef, undef, undef, undef, undef, undef, undef, undef, undef, undef, undef, undef, undef], defers := [] }) ?assign ?body ?done ?stop
  case assign =>
    intro l x W K hK
    gi_wp2
    exact hK
  case stop =>
    rintro D c pre W _ _ h _
    exact h.elim
  case done =>
    rintro D ys W hD hys ⟨⟨⟨v, hv, hrow, _⟩, _⟩, hB⟩ hK
    have hc := hv.cell
    gi_wp2
    refine ⟨by simp, .inl ⟨_, _, rfl, run_takeDeferred hK, ?_⟩⟩
    have e1 : ys.length = q := by simpa using congrArg List.length hys
    have e2 : (ys.map fun k : Fin q => szV xs n k.1) = (List.range q).map (szV xs n) := by rw [← hys, List.map_map]; rfl
    rw [e1, e2] at hrow
    have hD2 := hB0.size
    exact ⟨_, results_tmp2 rfl _ _ _, v, rfl, ownsRow_putObj hrow _ hK rfl, hB.trans (belowK_b (w := w) (Nat.le_refl _) W D _ _ (by omega) hK rfl rfl)⟩
  case body =>
    rintro l pre x W ⟨⟨⟨v, hv, hrow, _⟩, gb, gc⟩, hB⟩ hlt
    have hc := hv.cell
    gi_wp2
    have hx := x.2
    have hxn : x.1 * n + n ≤ q * n := by have := Nat.mul_le_mul_right n (show x.1 + 1 ≤ q by omega); rwa [Nat.succ_mul] at this
    have cells : ∀ j, (h : x.1 * n + j < xs.length) → W.cell? ⟨b0, o0 + x.1 * n + j, none⟩ = some (.int .i8 xs[x.1 * n + j].toInt) := fun j h => by
      obtain ⟨g, o, e, hcc⟩ := hA (x.1 * n + j) (i8v xs[x.1 * n + j]) (by simp [List.getElem?_eq_getElem h])
      rw [hA' (by omega)] at e
      simp only [Option.some.injEq, Addr.mk.injEq] at e
      obtain ⟨rfl, rfl, _⟩ := e
      rw [Nat.add_assoc]
      refine Eq.trans ?_ hcc
      have : b0 < w.heap.size := cell_lt hcc
      exact hB.cell (p := ⟨b0, o0 + (x.1 * n + j), none⟩) this
    gi_loopw [9, 24] (fun s i wr => ∃ j : Nat, j ≤ n ∧ s = .int .i64 (partQ xs (x.1 * n) j) ∧ i = .int .i64 j ∧ wr = W) (fun _ i _ => n - (intOf i).toNat)
    case atStart => exact ⟨0, Nat.zero_le _, rfl, rfl, rfl⟩
    case round =>
      obtain ⟨j, hj, rfl, rfl, rfl⟩ := hrel
      by_cases hlt2 : j < n
      · have hin : x.1 * n + j < xs.length := by omega
        have hcj := cells j hin
        obtain ⟨y, hy⟩ : ∃ y, y = xs[x.1 * n + j].toInt := ⟨_, rfl⟩
        have hyb := i8_bd' xs[x.1 * n + j]
        have hpb := partQ_bd xs (x.1 * n) j
        have hps := partQ_succ xs hin
        rw [← hy] at hcj hyb hps
        obtain ⟨s0, hs0⟩ : ∃ s0, s0 = partQ xs (x.1 * n) j := ⟨_, rfl⟩
        rw [← hs0] at hpb hps ⊢
        clear hy hs0
        gi_wp2
        refine ⟨⟨j + 1, by omega, ?_, by simp, trivial⟩, by simp [intOf]; omega⟩
        rw [hps]
        congr 1
        split <;> omega
      · obtain rfl : j = n := by omega
        have hq1 : q ≤ q * j := Nat.le_mul_of_pos_right q h1
        gi_wp2_with (gi_at_builtin; refine wpListIn_append_own _ rfl _ _ 183 rfl w.heap.size 2 i0 (.int .i64 0) 1 8 Tryz.underlying183 hi hz0 hz1 hz2 rfl (by decide) _ _ _ rfl (hrow.alloc _) ⟨wr.heap.size, 0, none⟩ 1 1 [szV xs j x.1] rfl rfl (cell_one_new _ _ _) (by simp [Value.oneCell']) (by simp only [maxLen]; omega) (by omega) (by have := hB.size; simp; omega) ?_; intro v' w3 hown' hgrow _; obtain ⟨g', cap', rfl⟩ := ownsRow_succ hown'; obtain ⟨hv1, hv2, hr2, hk2, hb2⟩ := hv.appended (by decide) hrow hB.size (by omega) hown' hgrow; have hc1 := hv1.cell; have hf1 := hv1.frozen)
        have gb2 := ((gb.alloc _).kept hgrow (gb.not_row (by decide) hrow)).other (B' := w1.heap.size) (by omega) (.slice (some ⟨g', 0, none⟩) (pre.length + 1) cap')
        have gc2 := ((gc.alloc _).kept hgrow (gc.not_row (by decide) hrow)).other (B' := w1.heap.size) (by omega) (.slice (some ⟨g', 0, none⟩) (pre.length + 1) cap')
        exact ⟨hk2, ⟨hb2, gb2.trans gb.symm, gc2.trans gc.symm⟩, ⟨⟨_, hv2, by simpa using hr2, trivial⟩, gb2, gc2⟩, hB.trans hb2⟩
/-- the sums of a matrix's rows -/
theorem wSizes (A : Option Addr) (xs : List Int8) (cap n q : Nat) (w : World) (hA : Cs w A (xs.map i8v)) (h1 : 1 ≤ n) (hxs : xs.length = q * n) (hlen : q * n ≤ 1048576) (hcap : xs.length ≤ cap) (hno : n ≤ 1048577) :
    CallsF Tryz.prog 141 [.slice A xs.length cap, i64 n] w fun r w' => ∃ B c, r = .tuple #[.slice B q c, i64 0] ∧ Cs w' B ((List.range q).map (szV xs n)) ∧ q ≤ c ∧ Fr no w w' := by
  refine ⟨⟨_, Tryz.func141, by decide, rfl⟩, ?_⟩
  rw [hxs]
  refine (callsIn_wide.1 (sizes_in A xs cap n q w hA h1 hxs hlen (by omega) hno)).mono ?_
  rintro e w' ⟨v, rfl, h, hb⟩
  refine ⟨_, rfl, ?_⟩
  have hf : Fr no w w' := ⟨hb.os, hb.tape, hb.output, hb.size, fun b hb' _ => hb.block b hb'⟩
  rcases h.2 with ⟨rfl, h0⟩ | ⟨g, c, cur, rfl, _, hg, hc, _, _, ht⟩
  · subst h0
    exact ⟨none, 0, rfl, Cs.nil _ _, Nat.le_refl _, hf⟩
  · refine ⟨_, c, rfl, ?_, hc, hf⟩
    intro j u hj
    refine ⟨g, 0, rfl, ?_⟩
    rw [← ht, List.getElem?_take] at hj
    split at hj
    · rw [Nat.zero_add]
      simp only [World.cell?, hg]
      rw [← Array.getElem?_toList]
      exact hj
    · cases hj
end Go.Wk.YtdelgnflcfhhkaaGreatDoor
namespace Go.Wk.YtdelgnflcfhhkaaGreatDoor
open Go Go.Wk Go.Proofs
/-- the greatest of the rounded sizes -/
def moreQ (xs : List Int8) (n s : Nat) : Nat → Int
  | 0 => 0
  | q + 1 => if moreQ xs n s q < roundQ (127 * partQ xs (q * n) n) s then roundQ (127 * partQ xs (q * n) n) s else moreQ xs n s q
theorem roundQ_bd {x : Int} (s : Nat) (h : 0 ≤ x) : 0 ≤ roundQ x s ∧ roundQ x s ≤ x + 1 := (nearQ_bd (x := x) (d := 2 ^ s) (by have := Int.pow_pos (n := 2) (m := s) (by omega); omega)).1 h
theorem moreQ_bd (xs : List Int8) {n s : Nat} (hn : n ≤ 1048577) : ∀ q, 0 ≤ moreQ xs n s q ∧ moreQ xs n s q ≤ 127 * 128 * (n : Int) + 1
  | 0 => by simp [moreQ]; omega
  | q + 1 => by
    have h1 := moreQ_bd xs (s := s) hn q
    have h2 := partQ_bd xs (q * n) n
    have h3 := roundQ_bd (x := 127 * partQ xs (q * n) n) s (by omega)
    simp only [moreQ]; split <;> omega
set_option maxHeartbeats 1000000 in
theorem wMore (A : Option Addr) (xs : List Int8) (cap n q s : Nat) (w : World) (hA : Cs w A (xs.map i8v)) (h1 : 1 ≤ n) (hxs : xs.length = q * n) (hlen : q * n ≤ 1048576) (hcap : xs.length ≤ cap) (hno : n ≤ 1048577) (hs : s ≤ 32) :
    CallsF Tryz.prog 112 [.slice A xs.length cap, i64 n, i64 s] w fun r w' => r = i64 (moreQ xs n s q) ∧ Fr no w w' := by
  have hq1 : q ≤ q * n := Nat.le_mul_of_pos_right q h1
  refine callsF Tryz.func112 rfl rfl (by decide) rfl ?_
  refine sA [] rfl ?_
  refine ev_call rfl rfl rfl (wSizes A xs cap n q w hA h1 hxs hlen hcap hno) ?_
  rintro r w1 ⟨B, c, rfl, hB, hc, f1⟩
  refine sA [] rfl ?_
  refine ev_loop (α := Nat) (fun y => [(2, i64 s), (20, .slice B q c), (21, i64 q), (9, i64 (moreQ xs n s y)), (22, i64 y)]) (fun y w' => y ≤ q ∧ Fr no w w' ∧ Cs w' B ((List.range q).map (szV xs n))) (fun y => q - y) 0 ⟨rfl, rfl, rfl, rfl, rfl, trivial⟩ ⟨Nat.zero_le _, f1, hB⟩ ?_
  clear hB f1
  rintro i w2 ⟨hi, f2, hB⟩
  refine sC [] rfl ?_; refine sD [] rfl ?_
  refine ev_condD rfl (fun c => ?_) (fun c => ?_)
  · have hlt : i < q := by omega
    have hb1 := moreQ_bd xs (s := s) hno i
    have hb2 := partQ_bd xs (i * n) n
    obtain ⟨g, o, rfl, hcell⟩ := hB i (szV xs n i) (by simp [hlt])
    refine sA [] rfl ?_
    refine ev_indexAddr rfl rfl tabOk rfl rfl rfl (by omega) (by omega) ?_
    rw [show o + (i : Int).toNat * 1 = o + i by omega]
    refine ev_load rfl rfl tabOk rfl rfl hcell ?_
    refine sA [] rfl ?_; refine ev_arith rfl rfl rfl rfl rfl (by simp only [lowK, hiK]; omega) ?_; refine sA [] rfl ?_
    refine ev_call rfl rfl rfl (wRound (127 * partQ xs (i * n) n) s w2 (by constructor <;> omega) (by omega)) ?_
    rintro r w3 ⟨rfl, f3⟩
    refine sA [] rfl ?_; refine ev_arith rfl rfl rfl rfl rfl (by simp only [lowK, hiK]; omega) ?_; refine sA [] rfl ?_
    refine ev_next (i + 1) (by omega) ⟨by omega, f2.tr f3, hB.fr0 f3⟩ ⟨rfl, rfl, rfl, rfl, by rw [show ((i + 1 : Nat) : Int) = (i : Int) + 1 by omega]; rfl, trivial⟩
  · obtain rfl : i = q := by omega
    refine sA [] rfl ?_
    exact ret1 (.inr rfl) rfl rfl ⟨rfl, f2⟩
end Go.Wk.YtdelgnflcfhhkaaGreatDoor
