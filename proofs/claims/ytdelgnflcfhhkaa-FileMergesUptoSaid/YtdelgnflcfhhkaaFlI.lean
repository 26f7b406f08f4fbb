/-
  Chapter 17: the document's Encode: the walk.
-/
import Derived.Test.YtdelgnflcfhhkaaFlH
import Derived.Test.YtdelgnflcfhhkaaPSy
import Derived.Test.YtdelgnflcfhhkaaPWb
set_option linter.unusedVariables false
namespace Go.Wk.Ytdelgnflcfhhkaa
open Go Go.Wk Go.Proofs

theorem flat_le {α : Type} {f : α → List UInt8} {c : Nat} : ∀ {l : List α}, (∀ a ∈ l, (f a).length ≤ c) → (l.flatMap f).length ≤ c * l.length
  | [], _ => by simp
  | a :: l, h => by
    have ih := flat_le (l := l) fun x hx => h x (List.mem_cons_of_mem _ hx)
    have := h a List.mem_cons_self
    rw [List.flatMap_cons, List.length_append, List.length_cons, Nat.mul_succ]; omega
theorem take_le {α : Type} {f : α → List UInt8} {c k : Nat} {l : List α} (h : ∀ a ∈ l, (f a).length ≤ c) : ((l.take k).flatMap f).length ≤ c * l.length := by
  have h1 := flat_le (f := f) (c := c) (l := l.take k) fun a ha => h a (List.mem_of_mem_take ha)
  have h2 : c * (l.take k).length ≤ c * l.length := Nat.mul_le_mul_left _ (by rw [List.length_take]; exact Nat.min_le_right _ _)
  omega
theorem hDigest (s : List UInt8) (w : World) (hs : s.length ≤ 140737488351232) :
    CallsF Try.prog 27 [.string (sOf s)] w fun v w' => v = .string (sOf (sumB s)) ∧ Fr no w w' := by
  have hb := fnvL_lt s
  obtain ⟨n, hn⟩ : ∃ n, n = fnvL s := ⟨_, rfl⟩
  unfold sumB
  rw [← hn] at hb ⊢
  refine callsF Try.func27 rfl rfl (by decide) rfl ?_
  refine sA [] rfl ?_
  refine ev_call rfl rfl rfl (refFnv s w hs) ?_
  rintro r w1 ⟨rfl, rfl⟩
  rw [← hn]
  refine sA [] rfl ?_
  refine ev_buildSlice tabOk rfl rfl rfl inf5 rfl rfl rfl (by simp) rfl (fun q w2 hq hb2 hf => ?_)
  have ho : Own w2 5 1 (.slice (some ⟨q, 0, none⟩) 0 0) 0 [] := own_of_blk hb2 rfl (by omega)
  refine sA [] rfl ?_
  refine ev_loop (α := Nat × Value) (fun x => [(3, .int .u64 (n / 256 ^ x.1)), (4, x.2), (5, .int .i64 x.1)])
    (fun x w3 => x.1 ≤ 8 ∧ Own w3 5 1 x.2 x.1 ((leB n x.1).map bv) ∧ Fr no w1 w3 ∧ (∀ g, x.2.ownBlock = some g → w1.heap.size ≤ g)) (fun x => 8 - x.1) (0, .slice (some ⟨q, 0, none⟩) 0 0)
    ⟨by simp [look], rfl, rfl, trivial⟩ ⟨Nat.zero_le _, by simpa [leB] using ho, hf, fun g hg => by simp only [Value.ownBlock, Option.some.injEq] at hg; omega⟩ ?_
  rintro ⟨k, v⟩ w3 ⟨hk, ho, hf3, hv⟩
  simp only at hk ho hv
  obtain ⟨A, c, rfl, hc, hA⟩ := ho.slice
  refine sC [] rfl ?_; refine sD [] rfl ?_; refine sD [] rfl ?_
  refine ev_condD rfl (fun hlt => ?_) (fun hlt => ?_)
  · have hnk : 0 ≤ n / 256 ^ k := Int.ediv_nonneg hb.1 (Int.pow_nonneg (by omega))
    have hle : n / 256 ^ k ≤ n := Int.ediv_le_self _ hb.1
    refine sA [] rfl ?_; refine ev_rem rfl rfl rfl rfl (by omega) (by omega) ?_; refine ev_conv rfl rfl tabOk rfl rfl rfl (by simp only [lowK, hiK]; omega) ?_
    refine ev_append1 tabOk rfl rfl (fun _ => rfl) rfl rfl inf5 rfl (by omega) (fun _ => rfl) rfl rfl (by simp [Value.cells]) (by simp [flatV, Value.cells, Value.oneCell']) rfl ho (by omega) (fun v2 w4 q2 ho2 hf4 hn4 => ?_)
    refine sA [] rfl ?_; refine ev_quo rfl rfl rfl rfl (by omega) (by omega) (by simp only [hiK]; omega) ?_; refine sA [] rfl ?_; refine ev_arith rfl rfl rfl rfl rfl (by simp only [lowK, hiK]; omega) ?_; refine sA [] rfl ?_
    have hq4 : flatV [Value.int .u8 (n / 256 ^ k % 256)] = [byteAt n k].map bv := by
      simp only [List.map_cons, List.map_nil, byteAt_val]; rfl
    rw [hq4, ← List.map_append, ← leB_snoc] at ho2
    skip
    refine ev_next (k + 1, v2) (by simp only; omega) ⟨by simp only; omega, ho2, hf3.trans hf4 (fun b hb e => by have := hv b e; omega), fun g hg => ?_⟩ ⟨?_, rfl, rfl, trivial⟩
    · rcases hn4 g hg with h1 | h1
      · exact hv g h1
      · have := hf3.size; omega
    · show some (Value.int .u64 (n / 256 ^ k / 256)) = _
      rw [div_step]
  · have hk' : k = 8 := by omega
    subst hk'
    refine sA [] rfl ?_
    refine ev_strOf (bs := leB n 8) (cap := c) rfl rfl tabOk (by simp [leB_len, ev, look]) rfl rfl rfl hc ?_
    refine sA [] rfl ?_
    exact ret1 (.inr rfl) rfl rfl ⟨rfl, hf3⟩
theorem hNum (x b : Int) (w : World) (h1 : -9223372036854775808 ≤ x) (h2 : x ≤ 9223372036854775807) :
    CallsF Try.prog 51 [i64 x, i64 b] w fun v w' => v = .string (sOf (numB x b)) ∧ Fr no w w' := by
  refine callsF Try.func51 rfl rfl (by decide) rfl ?_
  refine sA [] rfl ?_
  refine ev_call rfl rfl rfl (refNumber x b w h1 h2) ?_
  rintro r w1 ⟨rfl, f1⟩
  refine sA [] rfl ?_
  exact ret1 (.inr rfl) rfl rfl ⟨rfl, f1⟩
set_option maxHeartbeats 16000000 in
theorem refEncode (m : LM) (w : World) (hm : m.At w) (hl : m.Sm) (hcap : m.Cap) :
    CallsF Try.prog 19 [lmV m] w fun r w' => r = .tuple #[.string (sOf (encA m.p).1), i64 (encA m.p).2] ∧ Fr no w w' := by
  have hbl := hl.bl
  have hM : MAGIC.length = 8 := rfl
  unfold encA
  refine callsF Try.func19 rfl rfl (by decide) rfl ?_
  refine sA [] rfl ?_
  refine ev_box rfl rfl rfl fun p w1 hp kp f1 => ?_
  have kp : Blk w1 p (lmC m) 41 := kp
  refine sA [] rfl ?_; refine ev_loadAggB rfl rfl tabOk rfl rfl ‹_› (by rfl) ?_
  refine ev_call rfl rfl rfl (refValid m w1 (hm.fr0 f1) hl hcap) ?_
  rintro r w2 ⟨rfl, f2⟩
  have kp2 := kp.fr0 f2
  have hF2 := f1.tr f2
  have hvm := @vm_of m.p
  obtain ⟨a, ha⟩ : ∃ a, a = validQ m.p := ⟨_, rfl⟩
  rw [← ha] at hvm ⊢
  clear kp
  refine sC [] rfl ?_; refine sC [] rfl ?_; refine sC [] rfl ?_; refine sD [] rfl ?_
  refine ev_condD rfl (fun c => ?_) (fun c => ?_)
  · rw [if_neg (show ¬ a.2.2 = 0 by simpa using c)]
    refine sA [] rfl ?_
    exact ret2 (.inr rfl) rfl rfl rfl ⟨rfl, hF2⟩
  have h0 : a.2.2 = 0 := by simpa using c
  have hV := hvm h0
  rw [if_pos h0]
  have hsp : Cs w2 (some ⟨p, 0, none⟩) (shpC m.s) := (Cs.of_blk kp2).part 0 fun j u hj => by
    match j, hj with
    | 0, h => exact h
    | 1, h => exact h
    | 2, h => exact h
    | 3, h => exact h
    | 4, h => exact h
    | 5, h => exact h
    | n + 6, h => simp at h
  refine sA [] rfl ?_
  refine ev_loadAgg rfl rfl tabOk rfl rfl rfl hsp ?_
  refine ev_alloc rfl rfl inf35 (fun p7 w3 hp7 k7 f3 => ?_)
  refine ev_storeAgg tabOk rfl rfl rfl rfl rfl rfl k7 rfl (fun w4 k7 f4 => ?_)
  have h24 : Fr no w2 w4 := f3.trans f4 fun z hz e => by have : z = p7 := e; omega
  have k7 : Blk w4 p7 (shpC m.s) 35 := k7
  have kp4 := kp2.fr0 h24
  have hF4 := hF2.tr h24
  clear kp2 hsp
  have hnum : ∀ x ∈ m.s.nums, 0 ≤ x ∧ x ≤ 512 := vm_nums hV
  have x1 := hnum m.s.voc (by simp)
  have x2 := hnum m.s.ctx (by simp)
  have x3 := hnum m.s.dim (by simp)
  have x4 := hnum m.s.hds (by simp)
  have x5 := hnum m.s.lay (by simp)
  have x6 := hnum m.s.hid (by simp)
  have hes : 0 ≤ m.es ∧ m.es ≤ 24 := hV.es
  have hls : 0 ≤ m.ls ∧ m.ls ≤ 31 := hV.ls
  clear hnum
  have n1 := numB_len m.s.voc 2
  have n2 := numB_len m.s.ctx 2
  have n3 := numB_len m.s.dim 2
  have n4 := numB_len m.s.hds 2
  have n5 := numB_len m.s.lay 2
  have n6 := numB_len m.s.hid 2
  have n7 := numB_len m.es 1
  have n8 := numB_len m.ls 1
  refine sA [] rfl ?_
  refine ev_draw mixed (by kernel_rfl) ?_
  refine qA rfl ?_; refine q_loadB rfl rfl tabOk rfl rfl ‹_› (by rfl) ?_
  refine q_call rfl rfl rfl (fun w' hw' => (hNum m.s.voc 2 w' (by omega) (by omega)).mono fun u w'' z => ⟨z.1, hw'.tr z.2⟩) ?_
  skip
  refine q_concat (s := MAGIC) rfl rfl rfl rfl (by (try simp only [List.length_append]); omega) ?_
  refine qA rfl ?_; refine q_loadB rfl rfl tabOk rfl rfl ‹_› (by rfl) ?_
  refine q_call rfl rfl rfl (fun w' hw' => (hNum m.s.ctx 2 w' (by omega) (by omega)).mono fun u w'' z => ⟨z.1, hw'.tr z.2⟩) ?_
  skip
  refine q_concat rfl rfl rfl rfl (by (try simp only [List.length_append]); omega) ?_
  refine qA rfl ?_; refine q_loadB rfl rfl tabOk rfl rfl ‹_› (by rfl) ?_
  refine q_call rfl rfl rfl (fun w' hw' => (hNum m.s.dim 2 w' (by omega) (by omega)).mono fun u w'' z => ⟨z.1, hw'.tr z.2⟩) ?_
  skip
  refine q_concat rfl rfl rfl rfl (by (try simp only [List.length_append]); omega) ?_
  refine qA rfl ?_; refine q_loadB rfl rfl tabOk rfl rfl ‹_› (by rfl) ?_
  refine q_call rfl rfl rfl (fun w' hw' => (hNum m.s.hds 2 w' (by omega) (by omega)).mono fun u w'' z => ⟨z.1, hw'.tr z.2⟩) ?_
  skip
  refine q_concat rfl rfl rfl rfl (by (try simp only [List.length_append]); omega) ?_
  refine qA rfl ?_; refine q_loadB rfl rfl tabOk rfl rfl ‹_› (by rfl) ?_
  refine q_call rfl rfl rfl (fun w' hw' => (hNum m.s.lay 2 w' (by omega) (by omega)).mono fun u w'' z => ⟨z.1, hw'.tr z.2⟩) ?_
  skip
  refine q_concat rfl rfl rfl rfl (by (try simp only [List.length_append]); omega) ?_
  refine qA rfl ?_; refine q_loadB rfl rfl tabOk rfl rfl ‹_› (by rfl) ?_
  refine q_call rfl rfl rfl (fun w' hw' => (hNum m.s.hid 2 w' (by omega) (by omega)).mono fun u w'' z => ⟨z.1, hw'.tr z.2⟩) ?_
  skip
  refine q_concat rfl rfl rfl rfl (by (try simp only [List.length_append]); omega) ?_
  refine qA rfl ?_
  refine q_end fun w5 f5 => ?_
  have kp5 := kp4.fr0 f5
  have k75 := k7.fr0 f5
  have hF5 := hF4.tr f5
  clear kp4 k7
  refine sA [] rfl ?_
  refine ev_draw mixed (by kernel_rfl) ?_
  refine qA rfl ?_; refine q_loadB rfl rfl tabOk rfl rfl ‹_› (by rfl) ?_
  refine q_call rfl rfl rfl (fun w' hw' => (hNum m.es 1 w' (by omega) (by omega)).mono fun u w'' z => ⟨z.1, hw'.tr z.2⟩) ?_
  refine qA rfl ?_; refine q_loadB rfl rfl tabOk rfl rfl ‹_› (by rfl) ?_
  refine q_call rfl rfl rfl (fun w' hw' => (hNum m.ls 1 w' (by omega) (by omega)).mono fun u w'' z => ⟨z.1, hw'.tr z.2⟩) ?_
  skip
  refine q_concat rfl rfl rfl rfl (by (try simp only [List.length_append]); omega) ?_
  skip
  refine q_concat rfl rfl rfl rfl (by (try simp only [List.length_append]); omega) ?_
  refine qA rfl ?_
  refine q_end fun w6 f6 => ?_
  have kp6 := kp5.fr0 f6
  have hF6 := hF5.tr f6
  clear kp5
  obtain ⟨X1, hX1⟩ : ∃ X1, X1 = MAGIC ++ encS m.s ++ (numB m.es 1 ++ numB m.ls 1) := ⟨_, rfl⟩
  have e1 : MAGIC ++ numB m.s.voc 2 ++ numB m.s.ctx 2 ++ numB m.s.dim 2 ++ numB m.s.hds 2 ++ numB m.s.lay 2 ++ numB m.s.hid 2 ++ (numB m.es 1 ++ numB m.ls 1) = X1 := by
    rw [hX1]
    unfold encS encN
    simp only [Shp.nums, List.flatMap_cons, List.flatMap_nil, List.append_nil, List.append_assoc]
  have l1 : X1.length ≤ 200 := by rw [← e1]; simp only [List.length_append]; omega
  rw [e1]
  have hto := hV.V
  have htf : m.V.texts.length ≤ 512 := hto.few
  have hmf : m.V.merges.length ≤ 1024 := hto.fewM
  clear n1 n2 n3 n4 n5 n6 n7 n8

  have htl : ∀ t ∈ m.V.texts, t.length ≤ 64 := fun t ht => by
    obtain ⟨i, hi, rfl⟩ := List.getElem_of_mem ht
    have := (hto.texts i hi).2.2
    rw [show VV.t (m.p).V i = m.V.texts[i] by unfold VV.t; rw [List.getD_eq_getElem?_getD, show (m.p).V.texts = m.V.texts from rfl, List.getElem?_eq_getElem hi]; rfl] at this
    exact this
  have hel : ∀ t ∈ m.V.texts, (encT t).length ≤ 72 := fun t ht => by
    have h1 := htl t ht
    have h2 := numB_len t.length 1
    unfold encT; rw [List.length_append]; omega
  refine sA [] rfl ?_
  refine ev_loop (α := Nat) (fun k => [(1, ptA p 0), (7, ptA p7 0), (8, .string (sOf (X1 ++ (m.V.texts.take k).flatMap encT))), (9, i64 k)]) (fun k w' => k ≤ m.V.texts.length ∧ Fr no w6 w') (fun k => m.V.texts.length - k) 0 ⟨rfl, rfl, by simp [look], rfl, trivial⟩ ⟨Nat.zero_le _, Fr.refl _ _⟩ ?_
  rintro k w8 ⟨hk, g8⟩
  have kp8 := kp6.fr0 g8
  refine sA [] rfl ?_; refine ev_loadB rfl rfl tabOk rfl rfl ‹_› (by rfl) ?_; refine sD [] rfl ?_; refine sD [] rfl ?_; refine sD [] rfl ?_
  refine ev_condD rfl (fun c => ?_) (fun c => ?_)
  · have hlt : k < m.V.texts.length := by omega
    obtain ⟨g, o, hA, hcc⟩ := (hm.fr0 (hF6.tr g8)).voc.1 k (sv m.V.texts[k]) (by rw [List.getElem?_map, List.getElem?_eq_getElem hlt]; rfl)
    have hcc : w8.cell? ⟨g, o + (k : Int).toNat * 1, none⟩ = some (sv m.V.texts[k]) := by rw [show o + (k : Int).toNat * 1 = o + k by omega]; exact hcc
    have ht1 := htl _ (List.getElem_mem hlt)
    have hft := flat_take (f := encT) hlt
    have hS := take_le (f := encT) (c := 72) (k := k) hel
    obtain ⟨S, hSe⟩ : ∃ S, S = (m.V.texts.take k).flatMap encT := ⟨_, rfl⟩
    obtain ⟨t, ht⟩ : ∃ t, t = m.V.texts[k] := ⟨_, rfl⟩
    rw [← ht] at hcc ht1 hft
    rw [← hSe] at hS hft
    rw [← hSe]
    have n1 := numB_len t.length 1
    refine sA [] rfl ?_
    refine ev_draw mixed (by kernel_rfl) ?_
    refine qA rfl ?_; refine q_loadB rfl rfl tabOk rfl rfl ‹_› (by rfl) ?_; refine qA rfl ?_
    refine q_indexAddr rfl rfl tabOk (congrArg (fun z => some (Value.slice z m.V.texts.length m.tc)) hA) rfl rfl (by omega) (by omega) ?_
    refine q_load rfl rfl tabOk rfl rfl (fun _ hf => cell_fr (by assumption) hf id) ?_; refine qA rfl ?_
    refine q_call rfl rfl rfl (fun w' hw' => (hNum t.length 1 w' (by omega) (by omega)).mono fun u w'' z => ⟨z.1, hw'.tr z.2⟩) ?_
    refine qA rfl ?_; refine q_loadB rfl rfl tabOk rfl rfl ‹_› (by rfl) ?_; refine qA rfl ?_
    refine q_indexAddr rfl rfl tabOk (congrArg (fun z => some (Value.slice z m.V.texts.length m.tc)) hA) rfl rfl (by omega) (by omega) ?_
    refine q_load rfl rfl tabOk rfl rfl (fun _ hf => cell_fr (by assumption) hf id) ?_
    refine q_concat rfl rfl rfl rfl (by (try simp only [List.length_append]); omega) ?_
    skip
    refine q_concat rfl rfl rfl rfl (by (try simp only [List.length_append]); omega) ?_
    refine qA rfl ?_
    refine q_end fun w9 g9 => ?_
    refine sA [] rfl ?_; refine ev_arith rfl rfl rfl rfl rfl (by simp only [lowK, hiK]; omega) ?_; refine sA [] rfl ?_
    refine ev_next (k + 1) (by omega) ⟨by omega, g8.tr g9⟩ ⟨rfl, rfl, ?_, by rw [show ((k + 1 : Nat) : Int) = (k : Int) + 1 by omega]; rfl, trivial⟩
    have hE : X1 ++ S ++ (numB t.length 1 ++ t) = X1 ++ (m.V.texts.take (k + 1)).flatMap encT := by rw [hft]; unfold encT; simp only [List.append_assoc]
    rw [← hE]
    rfl
  obtain rfl : k = m.V.texts.length := by omega
  rw [List.take_length]
  have hS : (m.V.texts.flatMap encT).length ≤ 72 * m.V.texts.length := flat_le hel
  have n1 := numB_len m.V.merges.length 2
  refine sA [] rfl ?_; refine ev_loadB rfl rfl tabOk rfl rfl ‹_› (by rfl) ?_; refine sA [] rfl ?_
  refine ev_call rfl rfl rfl (hNum m.V.merges.length 2 w8 (by omega) (by omega)) ?_
  rintro r w9 ⟨rfl, g9⟩
  skip
  refine ev_concat rfl rfl rfl rfl (by simp only [List.length_append]; omega) ?_
  refine sA [] rfl ?_
  have hF9 := (hF6.tr g8).tr g9
  have kp9 := kp8.fr0 g9
  obtain ⟨X2, hX2⟩ : ∃ X2, X2 = X1 ++ m.V.texts.flatMap encT ++ numB m.V.merges.length 2 := ⟨_, rfl⟩
  have l2 : X2.length ≤ 60000 := by rw [hX2]; simp only [List.length_append]; omega
  rw [← hX2]
  clear kp6 kp8 hS hel htl hF6
  have hel : ∀ t ∈ m.V.merges, (encG t).length ≤ 24 := fun t ht => by
    have h1 := numB_len t.1 2
    have h2 := numB_len t.2.1 2
    have h3 := numB_len t.2.2 2
    unfold encG; rw [List.length_append, List.length_append]; omega
  refine ev_loop (α := Nat) (fun k => [(1, ptA p 0), (7, ptA p7 0), (8, .string (sOf (X2 ++ (m.V.merges.take k).flatMap encG))), (10, i64 k)]) (fun k w' => k ≤ m.V.merges.length ∧ Fr no w9 w') (fun k => m.V.merges.length - k) 0 ⟨rfl, rfl, by simp [look], rfl, trivial⟩ ⟨Nat.zero_le _, Fr.refl _ _⟩ ?_
  rintro k wa ⟨hk, ga⟩
  have kpa := kp9.fr0 ga
  refine sA [] rfl ?_; refine ev_loadB rfl rfl tabOk rfl rfl ‹_› (by rfl) ?_; refine sD [] rfl ?_; refine sD [] rfl ?_; refine sD [] rfl ?_
  refine ev_condD rfl (fun c => ?_) (fun c => ?_)
  · have hlt : k < m.V.merges.length := by omega
    obtain ⟨g, o, hA, hcs⟩ := mrgs_at ((hm.fr0 (hF9.tr ga)).voc.2) hlt
    have hok := hto.merges k hlt
    have hft := flat_take (f := encG) hlt
    rw [show m.V.merges[k] = m.V.merges.getD k (0, 0, 0) by rw [List.getD_eq_getElem?_getD, List.getElem?_eq_getElem hlt]; rfl] at hft
    have hmk : VV.m (m.p).V k = m.V.merges.getD k (0, 0, 0) := rfl
    obtain ⟨mm, hmm⟩ : ∃ mm, mm = m.V.merges.getD k (0, 0, 0) := ⟨_, rfl⟩
    rw [← hmm] at hcs hft hmk
    have b1 := tok_bd hto hok.1
    have b2 := tok_bd hto hok.2.1
    have b3 := tok_bd hto hok.2.2.1
    rw [hmk] at b1 b2 b3
    have hS := take_le (f := encG) (c := 24) (k := k) hel
    obtain ⟨S, hSe⟩ : ∃ S, S = (m.V.merges.take k).flatMap encG := ⟨_, rfl⟩
    rw [← hSe] at hS hft
    rw [← hSe]
    have n1 := numB_len mm.1 2
    have n2 := numB_len mm.2.1 2
    have n3 := numB_len mm.2.2 2
    refine sA [] rfl ?_; refine ev_loadB rfl rfl tabOk rfl rfl ‹_› (by rfl) ?_; refine sA [] rfl ?_
    refine ev_indexAddr rfl rfl tabOk (congrArg (fun z => some (Value.slice z m.V.merges.length m.mc)) hA) rfl rfl (by omega) (by omega) ?_
    refine ev_loadAgg rfl rfl tabOk rfl rfl rfl hcs ?_
    refine ev_alloc rfl rfl inf109 (fun q wb hq kb fb => ?_)
    refine ev_storeAgg tabOk rfl rfl rfl rfl rfl rfl kb rfl (fun wc kc fc => ?_)
    have hac : Fr no wa wc := fb.trans fc fun z hz e => by have : z = q := e; omega
    have kc : Blk wc q (mrg1 mm) 109 := kc
    clear kb
    refine sA [] rfl ?_
    refine ev_draw mixed (by kernel_rfl) ?_
    refine qA rfl ?_; refine q_loadB rfl rfl tabOk rfl rfl ‹_› (by rfl) ?_
    refine q_call rfl rfl rfl (fun w' hw' => (hNum mm.1 2 w' (by omega) (by omega)).mono fun u w'' z => ⟨z.1, hw'.tr z.2⟩) ?_
    refine qA rfl ?_; refine q_loadB rfl rfl tabOk rfl rfl ‹_› (by rfl) ?_
    refine q_call rfl rfl rfl (fun w' hw' => (hNum mm.2.1 2 w' (by omega) (by omega)).mono fun u w'' z => ⟨z.1, hw'.tr z.2⟩) ?_
    skip
    refine q_concat rfl rfl rfl rfl (by (try simp only [List.length_append]); omega) ?_
    refine qA rfl ?_; refine q_loadB rfl rfl tabOk rfl rfl ‹_› (by rfl) ?_
    refine q_call rfl rfl rfl (fun w' hw' => (hNum mm.2.2 2 w' (by omega) (by omega)).mono fun u w'' z => ⟨z.1, hw'.tr z.2⟩) ?_
    skip
    refine q_concat rfl rfl rfl rfl (by (try simp only [List.length_append]); omega) ?_
    skip
    refine q_concat rfl rfl rfl rfl (by (try simp only [List.length_append]); omega) ?_
    refine qA rfl ?_
    refine q_end fun wd gd => ?_
    refine sA [] rfl ?_; refine ev_arith rfl rfl rfl rfl rfl (by simp only [lowK, hiK]; omega) ?_; refine sA [] rfl ?_
    refine ev_next (k + 1) (by omega) ⟨by omega, (ga.tr hac).tr gd⟩ ⟨rfl, rfl, ?_, by rw [show ((k + 1 : Nat) : Int) = (k : Int) + 1 by omega]; rfl, trivial⟩
    have hE : X2 ++ S ++ (numB mm.1 2 ++ numB mm.2.1 2 ++ numB mm.2.2 2) = X2 ++ (m.V.merges.take (k + 1)).flatMap encG := by rw [hft]; unfold encG; simp only [List.append_assoc]
    rw [← hE]
    rfl
  obtain rfl : k = m.V.merges.length := by omega
  rw [List.take_length]
  have hS : (m.V.merges.flatMap encG).length ≤ 24 * m.V.merges.length := flat_le hel
  obtain ⟨X3, hX3⟩ : ∃ X3, X3 = X2 ++ m.V.merges.flatMap encG := ⟨_, rfl⟩
  have l3 : X3.length ≤ 100000 := by rw [hX3]; simp only [List.length_append]; omega
  rw [← hX3]
  have hrw := vm_rows hV
  obtain ⟨⟨r1, r2, r3, r4, r5, r6⟩, hrb⟩ := hrw
  have r1 : m.e.xs.length ≤ 100000 := r1
  have r2 : m.cos.xs.length ≤ 100000 := r2
  have r3 : m.sin.xs.length ≤ 100000 := r3
  have r4 : m.bend.xs.length ≤ 100000 := r4
  have r5 : m.gain.xs.length ≤ 100000 := r5
  have r6 : m.un.xs.length ≤ 100000 := r6
  have hwl : ∀ l : List Int8, (wrwB l).length = l.length := fun l => List.length_map _
  have q1 := hwl m.e.xs
  have q2 := hwl m.cos.xs
  have q3 := hwl m.sin.xs
  have q4 := hwl m.bend.xs
  have q5 := hwl m.gain.xs
  have q6 := hwl m.un.xs
  have hFa := hF9.tr ga
  have hma := hm.fr0 hFa
  clear hS hel kp9 hF9
  refine sA [] rfl ?_
  refine ev_draw mixed (by kernel_rfl) ?_
  refine qA rfl ?_; refine q_loadB rfl rfl tabOk rfl rfl ‹_› (by rfl) ?_
  refine q_call rfl rfl rfl (fun w' hw' => (refWRow m.e.A m.e.c m.e.xs w' (by omega) ((hma.rows m.e (by simp)).fr0 hw')).mono fun u w'' z => ⟨z.1, hw'.tr z.2⟩) ?_
  refine qA rfl ?_; refine q_loadB rfl rfl tabOk rfl rfl ‹_› (by rfl) ?_
  refine q_call rfl rfl rfl (fun w' hw' => (refWRow m.cos.A m.cos.c m.cos.xs w' (by omega) ((hma.rows m.cos (by simp)).fr0 hw')).mono fun u w'' z => ⟨z.1, hw'.tr z.2⟩) ?_
  skip
  refine q_concat rfl rfl rfl rfl (by (try simp only [List.length_append]); omega) ?_
  refine qA rfl ?_; refine q_loadB rfl rfl tabOk rfl rfl ‹_› (by rfl) ?_
  refine q_call rfl rfl rfl (fun w' hw' => (refWRow m.sin.A m.sin.c m.sin.xs w' (by omega) ((hma.rows m.sin (by simp)).fr0 hw')).mono fun u w'' z => ⟨z.1, hw'.tr z.2⟩) ?_
  skip
  refine q_concat rfl rfl rfl rfl (by (try simp only [List.length_append]); omega) ?_
  skip
  refine q_concat rfl rfl rfl rfl (by (try simp only [List.length_append]); omega) ?_
  refine qA rfl ?_
  refine q_end fun wb gb => ?_
  have kpb := kpa.fr0 gb
  have hFb := hFa.tr gb
  obtain ⟨X4, hX4⟩ : ∃ X4, X4 = X3 ++ (wrwB m.e.xs ++ wrwB m.cos.xs ++ wrwB m.sin.xs) := ⟨_, rfl⟩
  have l4 : X4.length ≤ 400000 := by rw [hX4]; simp only [List.length_append]; omega
  rw [← hX4]
  clear kpa hma hFa
  have hlay : m.bs.length ≤ 8 := by
    have h1 : ((m.p.bs).length : Int) = m.s.lay := hV.lay
    have h2 := hV.s.2.2.2.2.2.2.1.2
    have h2 : m.s.lay ≤ 8 := h2
    rw [show (m.p.bs).length = m.bs.length from List.length_map _] at h1
    omega
  have hpl : m.p.bs.length = m.bs.length := List.length_map _
  have hshs := vm_shs hV
  have hel : ∀ b ∈ m.p.bs, (encBk b).length ≤ 1000000 := fun b hb => by
    have h1 := flat_le (f := encN 1) (c := 8) (l := b.shs) fun x _ => numB_len x 1
    have h2 := flat_le (f := wrwB) (c := 100000) (l := b.frs) fun x hx => by rw [hwl]; exact hrb b hb x hx
    have h1 : (b.shs.flatMap (encN 1)).length ≤ 64 := h1
    have h2 : (b.frs.flatMap wrwB).length ≤ 900000 := h2
    unfold encBk; rw [List.length_append]; omega
  refine sA [] rfl ?_
  refine ev_loop (α := Nat) (fun y => [(1, ptA p 0), (8, .string (sOf (X4 ++ (m.p.bs.take y).flatMap encBk))), (12, i64 y)]) (fun y w' => y ≤ m.bs.length ∧ Fr no wb w') (fun y => m.bs.length - y) 0 ⟨rfl, by simp [look], rfl, trivial⟩ ⟨Nat.zero_le _, Fr.refl _ _⟩ ?_
  rintro y wc ⟨hy, gc⟩
  have kpc := kpb.fr0 gc
  refine sA [] rfl ?_; refine ev_loadB rfl rfl tabOk rfl rfl ‹_› (by rfl) ?_; refine sD [] rfl ?_; refine sD [] rfl ?_; refine sD [] rfl ?_
  refine ev_condD rfl (fun c => ?_) (fun c => ?_)
  · have hlt : y < m.bs.length := by omega
    obtain ⟨g, o, hA, hcs⟩ := blk_at ((hm.fr0 (hFb.tr gc)).blk) hlt
    have hlp : y < m.p.bs.length := by omega
    have hft := flat_take (f := encBk) hlp
    have hpb : m.p.bs[y] = pBk m.bs[y] := by simp [LM.p]
    rw [hpb] at hft
    have hbm : m.bs[y] ∈ m.bs := List.getElem_mem hlt
    have hpm : pBk m.bs[y] ∈ m.p.bs := List.mem_map_of_mem hbm
    have hrl := hrb _ hpm
    have hsl := hshs _ hpm
    have hba := (hm.fr0 (hFb.tr gc)).bs _ hbm
    obtain ⟨b, hb⟩ : ∃ b, b = m.bs[y] := ⟨_, rfl⟩
    rw [← hb] at hcs hft hrl hsl hba
    have hS := take_le (f := encBk) (c := 1000000) (k := y) hel
    obtain ⟨S, hSe⟩ : ∃ S, S = (m.p.bs.take y).flatMap encBk := ⟨_, rfl⟩
    rw [← hSe] at hS hft
    rw [← hSe]
    have hsl : ∀ x ∈ b.shs, 0 ≤ x ∧ x ≤ 31 := hsl
    have s1 := hsl b.qs (by simp)
    have n1 := numB_len b.qs 1
    have s2 := hsl b.ks (by simp)
    have n2 := numB_len b.ks 1
    have s3 := hsl b.vs (by simp)
    have n3 := numB_len b.vs 1
    have s4 := hsl b.os (by simp)
    have n4 := numB_len b.os 1
    have s5 := hsl b.ss (by simp)
    have n5 := numB_len b.ss 1
    have s6 := hsl b.gas (by simp)
    have n6 := numB_len b.gas 1
    have s7 := hsl b.ups (by simp)
    have n7 := numB_len b.ups 1
    have s8 := hsl b.dns (by simp)
    have n8 := numB_len b.dns 1
    have t1 : b.g1.xs.length ≤ 100000 := hrl b.g1.xs (by simp [Bk.map])
    have u1 := hwl b.g1.xs
    have t2 : b.q.xs.length ≤ 100000 := hrl b.q.xs (by simp [Bk.map])
    have u2 := hwl b.q.xs
    have t3 : b.k.xs.length ≤ 100000 := hrl b.k.xs (by simp [Bk.map])
    have u3 := hwl b.k.xs
    have t4 : b.v.xs.length ≤ 100000 := hrl b.v.xs (by simp [Bk.map])
    have u4 := hwl b.v.xs
    have t5 : b.o.xs.length ≤ 100000 := hrl b.o.xs (by simp [Bk.map])
    have u5 := hwl b.o.xs
    have t6 : b.g2.xs.length ≤ 100000 := hrl b.g2.xs (by simp [Bk.map])
    have u6 := hwl b.g2.xs
    have t7 : b.ga.xs.length ≤ 100000 := hrl b.ga.xs (by simp [Bk.map])
    have u7 := hwl b.ga.xs
    have t8 : b.up.xs.length ≤ 100000 := hrl b.up.xs (by simp [Bk.map])
    have u8 := hwl b.up.xs
    have t9 : b.dn.xs.length ≤ 100000 := hrl b.dn.xs (by simp [Bk.map])
    have u9 := hwl b.dn.xs
    refine sA [] rfl ?_; refine ev_loadB rfl rfl tabOk rfl rfl ‹_› (by rfl) ?_; refine sA [] rfl ?_
    refine ev_indexAddr rfl rfl tabOk (congrArg (fun z => some (Value.slice z m.bs.length m.bc)) hA) rfl rfl (by omega) (by omega) ?_
    refine ev_loadAgg rfl rfl tabOk rfl rfl rfl hcs ?_
    refine ev_alloc rfl rfl inf100 (fun q wd hq kd fd => ?_)
    refine ev_storeAgg tabOk rfl rfl rfl rfl rfl rfl kd rfl (fun we ke fe => ?_)
    have hce : Fr no wc we := fd.trans fe fun z hz e => by have : z = q := e; omega
    have ke : Blk we q (bkC b) 100 := ke
    have hbe := hba.fr0 hce
    clear kd hcs
    refine sA [] rfl ?_
    refine ev_draw mixed (by kernel_rfl) ?_
    refine qA rfl ?_; refine q_loadB rfl rfl tabOk rfl rfl ‹_› (by rfl) ?_
    refine q_call rfl rfl rfl (fun w' hw' => (hNum b.qs 1 w' (by omega) (by omega)).mono fun u w'' z => ⟨z.1, hw'.tr z.2⟩) ?_
    refine qA rfl ?_; refine q_loadB rfl rfl tabOk rfl rfl ‹_› (by rfl) ?_
    refine q_call rfl rfl rfl (fun w' hw' => (hNum b.ks 1 w' (by omega) (by omega)).mono fun u w'' z => ⟨z.1, hw'.tr z.2⟩) ?_
    skip
    refine q_concat rfl rfl rfl rfl (by (try simp only [List.length_append]); omega) ?_
    refine qA rfl ?_; refine q_loadB rfl rfl tabOk rfl rfl ‹_› (by rfl) ?_
    refine q_call rfl rfl rfl (fun w' hw' => (hNum b.vs 1 w' (by omega) (by omega)).mono fun u w'' z => ⟨z.1, hw'.tr z.2⟩) ?_
    skip
    refine q_concat rfl rfl rfl rfl (by (try simp only [List.length_append]); omega) ?_
    refine qA rfl ?_; refine q_loadB rfl rfl tabOk rfl rfl ‹_› (by rfl) ?_
    refine q_call rfl rfl rfl (fun w' hw' => (hNum b.os 1 w' (by omega) (by omega)).mono fun u w'' z => ⟨z.1, hw'.tr z.2⟩) ?_
    skip
    refine q_concat rfl rfl rfl rfl (by (try simp only [List.length_append]); omega) ?_
    refine qA rfl ?_; refine q_loadB rfl rfl tabOk rfl rfl ‹_› (by rfl) ?_
    refine q_call rfl rfl rfl (fun w' hw' => (hNum b.ss 1 w' (by omega) (by omega)).mono fun u w'' z => ⟨z.1, hw'.tr z.2⟩) ?_
    skip
    refine q_concat rfl rfl rfl rfl (by (try simp only [List.length_append]); omega) ?_
    refine qA rfl ?_; refine q_loadB rfl rfl tabOk rfl rfl ‹_› (by rfl) ?_
    refine q_call rfl rfl rfl (fun w' hw' => (hNum b.gas 1 w' (by omega) (by omega)).mono fun u w'' z => ⟨z.1, hw'.tr z.2⟩) ?_
    skip
    refine q_concat rfl rfl rfl rfl (by (try simp only [List.length_append]); omega) ?_
    refine qA rfl ?_; refine q_loadB rfl rfl tabOk rfl rfl ‹_› (by rfl) ?_
    refine q_call rfl rfl rfl (fun w' hw' => (hNum b.ups 1 w' (by omega) (by omega)).mono fun u w'' z => ⟨z.1, hw'.tr z.2⟩) ?_
    skip
    refine q_concat rfl rfl rfl rfl (by (try simp only [List.length_append]); omega) ?_
    refine qA rfl ?_; refine q_loadB rfl rfl tabOk rfl rfl ‹_› (by rfl) ?_
    refine q_call rfl rfl rfl (fun w' hw' => (hNum b.dns 1 w' (by omega) (by omega)).mono fun u w'' z => ⟨z.1, hw'.tr z.2⟩) ?_
    skip
    refine q_concat rfl rfl rfl rfl (by (try simp only [List.length_append]); omega) ?_
    skip
    refine q_concat rfl rfl rfl rfl (by (try simp only [List.length_append]); omega) ?_
    refine qA rfl ?_
    refine q_end fun wf gf => ?_
    have kf := ke.fr0 gf
    have hbf := hbe.fr0 gf
    clear ke hbe
    have hE : X4 ++ S ++ (numB b.qs 1 ++ numB b.ks 1 ++ numB b.vs 1 ++ numB b.os 1 ++ numB b.ss 1 ++ numB b.gas 1 ++ numB b.ups 1 ++ numB b.dns 1) = X4 ++ S ++ b.shs.flatMap (encN 1) := by
      unfold encN
      simp only [Bk.shs, List.flatMap_cons, List.flatMap_nil, List.append_nil, List.append_assoc]
    have l5 : (b.shs.flatMap (encN 1)).length ≤ 64 := flat_le (f := encN 1) (c := 8) (l := b.shs) fun x _ => numB_len x 1
    rw [hE]
    obtain ⟨X5, hX5⟩ : ∃ X5, X5 = X4 ++ S ++ b.shs.flatMap (encN 1) := ⟨_, rfl⟩
    have l6 : X5.length ≤ 400100 + 1000000 * m.p.bs.length := by rw [hX5]; simp only [List.length_append]; omega
    rw [← hX5]
    skip
    refine ev_draw mixed (by kernel_rfl) ?_
    refine qA rfl ?_; refine q_loadB rfl rfl tabOk rfl rfl ‹_› (by rfl) ?_
    refine q_call rfl rfl rfl (fun w' hw' => (refWRow b.g1.A b.g1.c b.g1.xs w' (by omega) ((hbf b.g1 (by simp)).fr0 hw')).mono fun u w'' z => ⟨z.1, hw'.tr z.2⟩) ?_
    refine qA rfl ?_; refine q_loadB rfl rfl tabOk rfl rfl ‹_› (by rfl) ?_
    refine q_call rfl rfl rfl (fun w' hw' => (refWRow b.q.A b.q.c b.q.xs w' (by omega) ((hbf b.q (by simp)).fr0 hw')).mono fun u w'' z => ⟨z.1, hw'.tr z.2⟩) ?_
    skip
    refine q_concat rfl rfl rfl rfl (by (try simp only [List.length_append]); omega) ?_
    refine qA rfl ?_; refine q_loadB rfl rfl tabOk rfl rfl ‹_› (by rfl) ?_
    refine q_call rfl rfl rfl (fun w' hw' => (refWRow b.k.A b.k.c b.k.xs w' (by omega) ((hbf b.k (by simp)).fr0 hw')).mono fun u w'' z => ⟨z.1, hw'.tr z.2⟩) ?_
    skip
    refine q_concat rfl rfl rfl rfl (by (try simp only [List.length_append]); omega) ?_
    refine qA rfl ?_; refine q_loadB rfl rfl tabOk rfl rfl ‹_› (by rfl) ?_
    refine q_call rfl rfl rfl (fun w' hw' => (refWRow b.v.A b.v.c b.v.xs w' (by omega) ((hbf b.v (by simp)).fr0 hw')).mono fun u w'' z => ⟨z.1, hw'.tr z.2⟩) ?_
    skip
    refine q_concat rfl rfl rfl rfl (by (try simp only [List.length_append]); omega) ?_
    refine qA rfl ?_; refine q_loadB rfl rfl tabOk rfl rfl ‹_› (by rfl) ?_
    refine q_call rfl rfl rfl (fun w' hw' => (refWRow b.o.A b.o.c b.o.xs w' (by omega) ((hbf b.o (by simp)).fr0 hw')).mono fun u w'' z => ⟨z.1, hw'.tr z.2⟩) ?_
    skip
    refine q_concat rfl rfl rfl rfl (by (try simp only [List.length_append]); omega) ?_
    refine qA rfl ?_; refine q_loadB rfl rfl tabOk rfl rfl ‹_› (by rfl) ?_
    refine q_call rfl rfl rfl (fun w' hw' => (refWRow b.g2.A b.g2.c b.g2.xs w' (by omega) ((hbf b.g2 (by simp)).fr0 hw')).mono fun u w'' z => ⟨z.1, hw'.tr z.2⟩) ?_
    skip
    refine q_concat rfl rfl rfl rfl (by (try simp only [List.length_append]); omega) ?_
    refine qA rfl ?_; refine q_loadB rfl rfl tabOk rfl rfl ‹_› (by rfl) ?_
    refine q_call rfl rfl rfl (fun w' hw' => (refWRow b.ga.A b.ga.c b.ga.xs w' (by omega) ((hbf b.ga (by simp)).fr0 hw')).mono fun u w'' z => ⟨z.1, hw'.tr z.2⟩) ?_
    skip
    refine q_concat rfl rfl rfl rfl (by (try simp only [List.length_append]); omega) ?_
    refine qA rfl ?_; refine q_loadB rfl rfl tabOk rfl rfl ‹_› (by rfl) ?_
    refine q_call rfl rfl rfl (fun w' hw' => (refWRow b.up.A b.up.c b.up.xs w' (by omega) ((hbf b.up (by simp)).fr0 hw')).mono fun u w'' z => ⟨z.1, hw'.tr z.2⟩) ?_
    skip
    refine q_concat rfl rfl rfl rfl (by (try simp only [List.length_append]); omega) ?_
    refine qA rfl ?_; refine q_loadB rfl rfl tabOk rfl rfl ‹_› (by rfl) ?_
    refine q_call rfl rfl rfl (fun w' hw' => (refWRow b.dn.A b.dn.c b.dn.xs w' (by omega) ((hbf b.dn (by simp)).fr0 hw')).mono fun u w'' z => ⟨z.1, hw'.tr z.2⟩) ?_
    skip
    refine q_concat rfl rfl rfl rfl (by (try simp only [List.length_append]); omega) ?_
    skip
    refine q_concat rfl rfl rfl rfl (by (try simp only [List.length_append]); omega) ?_
    refine qA rfl ?_
    refine q_end fun wg gg => ?_
    refine sA [] rfl ?_; refine ev_arith rfl rfl rfl rfl rfl (by simp only [lowK, hiK]; omega) ?_; refine sA [] rfl ?_
    refine ev_next (y + 1) (by omega) ⟨by omega, ((gc.tr hce).tr gf).tr gg⟩ ⟨rfl, ?_, by rw [show ((y + 1 : Nat) : Int) = (y : Int) + 1 by omega]; rfl, trivial⟩
    have hE : X5 ++ (wrwB b.g1.xs ++ wrwB b.q.xs ++ wrwB b.k.xs ++ wrwB b.v.xs ++ wrwB b.o.xs ++ wrwB b.g2.xs ++ wrwB b.ga.xs ++ wrwB b.up.xs ++ wrwB b.dn.xs) = X4 ++ (m.p.bs.take (y + 1)).flatMap encBk := by
      rw [hft, hX5]; unfold encBk
      simp only [Bk.shs, Bk.frs, Bk.map, List.flatMap_cons, List.flatMap_nil, List.append_nil, List.append_assoc]
    rw [← hE]
    rfl
  obtain rfl : y = m.bs.length := by omega
  rw [← hpl, List.take_length]
  have hS : (m.p.bs.flatMap encBk).length ≤ 1000000 * m.p.bs.length := flat_le hel
  have hFc := hFb.tr gc
  have hmc := hm.fr0 hFc
  obtain ⟨X6, hX6⟩ : ∃ X6, X6 = X4 ++ m.p.bs.flatMap encBk := ⟨_, rfl⟩
  have l6 : X6.length ≤ 9000000 := by rw [hX6]; simp only [List.length_append]; omega
  rw [← hX6]
  refine sA [] rfl ?_
  refine ev_draw mixed (by kernel_rfl) ?_
  refine qA rfl ?_; refine q_loadB rfl rfl tabOk rfl rfl ‹_› (by rfl) ?_
  refine q_call rfl rfl rfl (fun w' hw' => (refWRow m.bend.A m.bend.c m.bend.xs w' (by omega) ((hmc.rows m.bend (by simp)).fr0 hw')).mono fun u w'' z => ⟨z.1, hw'.tr z.2⟩) ?_
  refine qA rfl ?_; refine q_loadB rfl rfl tabOk rfl rfl ‹_› (by rfl) ?_
  refine q_call rfl rfl rfl (fun w' hw' => (refWRow m.gain.A m.gain.c m.gain.xs w' (by omega) ((hmc.rows m.gain (by simp)).fr0 hw')).mono fun u w'' z => ⟨z.1, hw'.tr z.2⟩) ?_
  skip
  refine q_concat rfl rfl rfl rfl (by (try simp only [List.length_append]); omega) ?_
  refine qA rfl ?_; refine q_loadB rfl rfl tabOk rfl rfl ‹_› (by rfl) ?_
  refine q_call rfl rfl rfl (fun w' hw' => (refWRow m.un.A m.un.c m.un.xs w' (by omega) ((hmc.rows m.un (by simp)).fr0 hw')).mono fun u w'' z => ⟨z.1, hw'.tr z.2⟩) ?_
  skip
  refine q_concat rfl rfl rfl rfl (by (try simp only [List.length_append]); omega) ?_
  skip
  refine q_concat rfl rfl rfl rfl (by (try simp only [List.length_append]); omega) ?_
  refine qA rfl ?_
  refine q_end fun wd gd => ?_
  have hE : X6 ++ (wrwB m.bend.xs ++ wrwB m.gain.xs ++ wrwB m.un.xs) = encQ m.p := by
    rw [hX6, hX4, hX3, hX2, hX1]
    unfold encQ encM encBody encV
    simp only [List.append_assoc]
    rfl
  have l7 : (encQ m.p).length ≤ 10000000 := by rw [← hE]; simp only [List.length_append]; omega
  rw [hE]
  refine sA [] rfl ?_
  refine ev_call rfl rfl rfl (hDigest (encQ m.p) wd (by omega)) ?_
  rintro r we ⟨rfl, ge⟩
  have hsl : (sumB (encQ m.p)).length = 8 := leB_len _ _
  skip
  refine ev_concat rfl rfl rfl rfl (by omega) ?_
  refine sA [] rfl ?_
  exact ret2 (.inr rfl) rfl rfl rfl ⟨rfl, (hFc.tr gd).tr ge⟩
end Go.Wk.Ytdelgnflcfhhkaa
