/-
  Chapter 17: the document's Encode: the walk.
-/
import Derived.Test.YtdelgnflcfhhkaaGreatDoorFlH
import Derived.Test.YtdelgnflcfhhkaaGreatDoorPSy
import Derived.Test.YtdelgnflcfhhkaaGreatDoorPWb
set_option linter.unusedVariables false
namespace Go.Wk.YtdelgnflcfhhkaaGreatDoor
open Go Go.Wk Go.Proofs

theorem flat_le {α : Type} {f : α → List UInt8} {c : Nat} : ∀ {l : List α}, (∀ a ∈ l, (f a).length ≤ c) → (l.flatMap f).length ≤ c * l.length
  | [], _ => by simp
  | a :: l, h => by
    have ih := flat_le (l := l) fun x hx => h x (List.mem_cons_of_mem _ hx)
    have := h a List.mem_cons_self
    rw [List.flatMap_cons, List.length_append, List.length_cons, Nat.mul_succ]; omega
theorem take_le {α : Type} {f : α → List UInt8} {c k : Nat} {l : List α} (h : ∀ a ∈ l, (f a).length ≤ c) : ((l.take k).flatMap f).length ≤ c * l.length := by
  have h1 := flat_le (f := f) (c := c) (l := l.take k) fun a ha => h a (List.mem_of_mem_take ha)
  have h2 : c * (l.take k).length ≤ c * l.length := Nat.mul_le_mul_left _ (by rw [List.length_take]; exact Nat.min_le_right _ _)
  omega
theorem hDigest (s : List UInt8) (w : World) (hs : s.length ≤ 140737488351232) :
    CallsF Tryz.prog 55 [.string (sOf s)] w fun v w' => v = .string (sOf (sumB s)) ∧ Fr no w w' := by
  have hb := fnvL_lt s
  obtain ⟨n, hn⟩ : ∃ n, n = fnvL s := ⟨_, rfl⟩
  unfold sumB
  rw [← hn] at hb ⊢
  refine callsF Tryz.func55 rfl rfl (by decide) rfl ?_
  refine sA [] rfl ?_
  refine ev_call rfl rfl rfl (refFnv s w hs) ?_
  rintro r w1 ⟨rfl, rfl⟩
  rw [← hn]
  refine sA [] rfl ?_
  refine ev_buildSlice tabOk rfl rfl rfl inf5 rfl rfl rfl (by simp) rfl (fun q w2 hq hb2 hf => ?_)
  have ho : Own w2 5 1 (.slice (some ⟨q, 0, none⟩) 0 0) 0 [] := own_of_blk hb2 rfl (by omega)
  refine sA [] rfl ?_
  refine ev_loop (α := Nat × Value) (fun x => [(3, .int .u64 (n / 256 ^ x.1)), (4, x.2), (5, .int .i64 x.1)])
    (fun x w3 => x.1 ≤ 8 ∧ Own w3 5 1 x.2 x.1 ((leB n x.1).map bv) ∧ Fr no w1 w3 ∧ (∀ g, x.2.ownBlock = some g → w1.heap.size ≤ g)) (fun x => 8 - x.1) (0, .slice (some ⟨q, 0, none⟩) 0 0)
    ⟨by simp [look], rfl, rfl, trivial⟩ ⟨Nat.zero_le _, by simpa [leB] using ho, hf, fun g hg => by simp only [Value.ownBlock, Option.some.injEq] at hg; omega⟩ ?_
  rintro ⟨k, v⟩ w3 ⟨hk, ho, hf3, hv⟩
  simp only at hk ho hv
  obtain ⟨A, c, rfl, hc, hA⟩ := ho.slice
  refine sC [] rfl ?_; refine sD [] rfl ?_; refine sD [] rfl ?_
  refine ev_condD rfl (fun hlt => ?_) (fun hlt => ?_)
  · have hnk : 0 ≤ n / 256 ^ k := Int.ediv_nonneg hb.1 (Int.pow_nonneg (by omega))
    have hle : n / 256 ^ k ≤ n := Int.ediv_le_self _ hb.1
    refine sA [] rfl ?_; refine ev_rem rfl rfl rfl rfl (by omega) (by omega) ?_; refine ev_conv rfl rfl tabOk rfl rfl rfl (by simp only [lowK, hiK]; omega) ?_
    refine ev_append1 tabOk rfl rfl (fun _ => rfl) rfl rfl inf5 rfl (by omega) (fun _ => rfl) rfl rfl (by simp [Value.cells]) (by simp [flatV, Value.cells, Value.oneCell']) rfl ho (by omega) (fun v2 w4 q2 ho2 hf4 hn4 => ?_)
    refine sA [] rfl ?_; refine ev_quo rfl rfl rfl rfl (by omega) (by omega) (by simp only [hiK]; omega) ?_; refine sA [] rfl ?_; refine ev_arith rfl rfl rfl rfl rfl (by simp only [lowK, hiK]; omega) ?_; refine sA [] rfl ?_
    have hq4 : flatV [Value.int .u8 (n / 256 ^ k % 256)] = [byteAt n k].map bv := by
      simp only [List.map_cons, List.map_nil, byteAt_val]; rfl
    rw [hq4, ← List.map_append, ← leB_snoc] at ho2
    skip
    refine ev_next (k + 1, v2) (by simp only; omega) ⟨by simp only; omega, ho2, hf3.trans hf4 (fun b hb e => by have := hv b e; omega), fun g hg => ?_⟩ ⟨?_, rfl, rfl, trivial⟩
    · rcases hn4 g hg with h1 | h1
      · exact hv g h1
      · have := hf3.size; omega
    · show some (Value.int .u64 (n / 256 ^ k / 256)) = _
      rw [div_step]
  · have hk' : k = 8 := by omega
    subst hk'
    refine sA [] rfl ?_
    refine ev_strOf (bs := leB n 8) (cap := c) rfl rfl tabOk (by simp [leB_len, ev, look]) rfl rfl rfl hc ?_
    refine sA [] rfl ?_
    exact ret1 (.inr rfl) rfl rfl ⟨rfl, hf3⟩
end Go.Wk.YtdelgnflcfhhkaaGreatDoor
