/-
  Chapter 16: the iterator slices.Chunk hands back; vec.Sizes.
-/
import Derived.Test.YtfgllkflnkolhaaDoorShJ
set_option linter.unusedVariables false
set_option linter.unusedSimpArgs false
namespace Go.Wk.YtfgllkflnkolhaaDoor
open Go Go.Wk Go.Proofs Go.RowKit Go.Shelf
attribute [local go_sem] Oper.semAt_some

/-- the k-th piece of a row -/
abbrev piece (b off n : Nat) (k : Nat) : Value := .slice (some ⟨b, off + k * n, none⟩) n n
/-- what a round keeps -/
def KpC (n₀ b c : Nat) (W W' : World) : Prop := Below n₀ W W' ∧ W'.heap[b]? = W.heap[b]? ∧ W'.heap[c]? = W.heap[c]?
theorem cell_same {W W' : World} {b o : Nat} (h : W'.heap[b]? = W.heap[b]?) : W'.cell? ⟨b, o, none⟩ = W.cell? ⟨b, o, none⟩ := by simp [World.cell?, h]
set_option maxRecDepth 100000 in
set_option maxHeartbeats 4000000 in
theorem chunk1_in {n₁ : Nat} (m : Nat) (hm : 1 ≤ m) (l Bs Bn n₀ b off cap n q : Nat) (A : Option Addr) (hA : 0 < q → A = some ⟨b, off, none⟩) (h1 : 1 ≤ n) (hlen : q * n ≤ 1048576) (hcap : q * n ≤ cap) (J Jx : List Nat → World → Prop)
    (hJ : AbidesFrom n₁ J) (hY : ∀ pre x W, J pre W → pre.length < q → x < q → YieldAt Fence.wide (m - 1) Tryd.prog l #[piece b off n x] W fun e W' =>
      (e = .returned (.bool true) ∧ J (pre ++ [x]) W' ∧ KpC n₀ Bs Bn W W') ∨ (e = .returned (.bool false) ∧ Jx (pre ++ [x]) W'))
    (W : World) (hBs : W.cell? ⟨Bs, 0, none⟩ = some (.slice A (q * n) cap)) (hBn : W.cell? ⟨Bn, 0, none⟩ = some (.int .i64 n)) (h0 : J [] W) :
    CallsIn Fence.wide m Tryd.prog 113 #[.func (.yield l) #[] #[], .pointer (some ⟨Bs, 0, none⟩), .pointer (some ⟨Bn, 0, none⟩)] W fun e W' => (∃ v, e = .returned v) ∧
      ((∃ ys, ys = List.range q ∧ J ys W') ∨ (∃ pre, True ∧ Jx pre W')) := by
  refine callsIn_of_wp Tryd.func113 rfl trivial ?_ rfl
  simp only [Tryd.ntmps113, List.size_toArray, List.length_cons, List.length_nil, Nat.reduceAdd, Nat.reduceSub, Array.replicate_succ, Array.replicate_zero, List.push_toArray, List.append_toArray, List.nil_append, List.cons_append]
  gi_wp2
  gi_loopw [4] (fun i wr => ∃ k : Nat, k ≤ q ∧ i = .int .i64 ((k * n : Nat) : Int) ∧ J (List.range k) wr ∧ wr.cell? ⟨Bs, 0, none⟩ = some (.slice A (q * n) cap) ∧ wr.cell? ⟨Bn, 0, none⟩ = some (.int .i64 n))
    (fun i _ => q * n - (intOf i).toNat)
  case atStart => exact ⟨0, Nat.zero_le _, by simp, h0, hBs, hBn⟩
  case round =>
    obtain ⟨k, hk, rfl, hJs, cS, cN⟩ := hrel
    by_cases hlt : k < q
    · have e1 : k * n + n ≤ q * n := by have := Nat.mul_le_mul_right n (show k + 1 ≤ q by omega); rwa [Nat.succ_mul] at this
      obtain rfl := hA (by omega)
      have hJd : J (List.range k) wr.drew := hJ _ wr wr.drew none hJs ⟨rfl, rfl, rfl, Nat.le_refl _, fun _ _ _ => rfl⟩ (fun r e => by cases e)
      obtain ⟨fn, tmps, assign, body, hy, hR⟩ := hY _ k wr.drew hJd (by simpa using hlt) hlt
      dsimp only [piece] at hy
      gi_wp2
      gi_region
      gi_wp2
      refine hR.mono ?_
      rintro e W3 (⟨rfl, hJ3, hk3⟩ | ⟨rfl, hJx3⟩)
      · have cN3 : W3.cell? ⟨Bn, 0, none⟩ = some (.int .i64 n) := (cell_same hk3.2.2).trans cN
        have cS3 : W3.cell? ⟨Bs, 0, none⟩ = some (.slice (some ⟨b, off, none⟩) (q * n) cap) := (cell_same hk3.2.1).trans cS
        gi_wp2
        go_roundw
        case rel => exact ⟨k + 1, by omega, by rw [Nat.succ_mul]; simp, by rw [List.range_succ]; exact hJ3, cS3, cN3⟩
        case measure =>
          have : 0 < n := h1
          simp [intOf]
          omega
      · gi_wp2
        refine bodyPost_ret (results_none rfl _ _ _) rfl ?_
        exact ⟨⟨_, rfl⟩, .inr ⟨_, trivial, hJx3⟩⟩
    · obtain rfl : k = q := by omega
      gi_wp2
      go_end0
      exact ⟨⟨_, rfl⟩, .inl ⟨_, rfl, hJs⟩⟩
theorem chunk_stops (m : Nat) (hm : 1 ≤ m) (Bs Bn n₀ b off cap n q : Nat) (A : Option Addr) (hA : 0 < q → A = some ⟨b, off, none⟩) (h1 : 1 ≤ n) (hlen : q * n ≤ 1048576) (hcap : q * n ≤ cap)
    (w : World) (hBs : Boxed w Bs 40 (.slice A (q * n) cap)) (hBn : Boxed w Bn 3 (.int .i64 n)) :
    SeqStopsK Fence.wide m Tryd.prog 113 #[.pointer (some ⟨Bs, 0, none⟩), .pointer (some ⟨Bn, 0, none⟩)] (fun k : Fin q => #[piece b off n k.1]) (KpC n₀ Bs Bn) (fun ys => ys.map (·.1) = List.range q) (fun _ => True) q w := by
  intro l J Jx W hW hJ hJx hY h0
  have c1 : Boxed W Bs 40 (.slice A (q * n) cap) := (hW.block _ hBs.lt).trans hBs
  have c2 : Boxed W Bn 3 (.int .i64 n) := (hW.block _ hBn.lt).trans hBn
  refine (chunk1_in (n₁ := W.heap.size) m hm l Bs Bn n₀ b off cap n q A hA h1 hlen hcap (fun pre W => ∃ pre' : List (Fin q), pre'.map (·.1) = pre ∧ J pre' W) (fun pre W => ∃ pre' : List (Fin q), pre'.map (·.1) = pre ∧ Jx pre' W)
    (fun s A B row hs hg hr => by obtain ⟨p, e, hp⟩ := hs; exact ⟨p, e, hJ p A B row hp hg hr⟩) ?_ W c1.cell c2.cell ⟨[], rfl, h0⟩).mono ?_
  · rintro pre x W1 ⟨p, rfl, hp⟩ hl hx
    have := hY p ⟨x, hx⟩ W1 hp (by simpa using hl)
    refine YieldAt.mono this ?_
    rintro e W' (⟨h1, h2, h3⟩ | ⟨h1, h2⟩)
    · exact .inl ⟨h1, ⟨p ++ [⟨x, hx⟩], by simp, h2⟩, h3⟩
    · exact .inr ⟨h1, ⟨p ++ [⟨x, hx⟩], by simp, h2⟩⟩
  · rintro e W' ⟨h1, (⟨ys, rfl, p, hp, h2⟩ | ⟨ys, _, p, hp, h2⟩)⟩
    · exact ⟨h1, .inl ⟨p, hp, h2⟩⟩
    · exact ⟨h1, .inr ⟨p, trivial, h2⟩⟩
end Go.Wk.YtfgllkflnkolhaaDoor
