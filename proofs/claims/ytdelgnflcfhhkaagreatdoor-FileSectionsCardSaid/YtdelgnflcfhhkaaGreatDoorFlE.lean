/-
  Chapter 17: the digest as bytes; the reader of a file; rows, shifts and sizes as pointers: the walks.
-/
import Derived.Test.YtdelgnflcfhhkaaGreatDoorPWb
import Derived.Test.YtdelgnflcfhhkaaGreatDoorFlB
set_option linter.unusedVariables false
namespace Go.Wk.YtdelgnflcfhhkaaGreatDoor
open Go Go.Wk Go.Proofs

theorem leB_set {n : Int} {k m : Nat} (h : k < m) : ((leB n k ++ List.replicate (m - k) (0 : UInt8)).map bv).set k (bv (byteAt n k)) = (leB n (k + 1) ++ List.replicate (m - (k + 1)) (0 : UInt8)).map bv := by
  rw [← List.map_set, List.set_append_right _ _ (by rw [leB_len]; omega), leB_len, Nat.sub_self, leB_snoc, List.append_assoc]
  congr 2
  obtain ⟨j, hj⟩ : ∃ j, m - k = j + 1 := ⟨m - k - 1, by omega⟩
  rw [hj, show m - (k + 1) = j by omega]
  rfl
theorem wSum (s : List UInt8) (w : World) (hs : s.length ≤ 140737488351232) :
    CallsF Tryz.prog 51 [.string (sOf s)] w fun v w' => v = .string (sOf (sumB s)) ∧ Fr no w w' := by
  have hb := fnvL_lt s
  refine callsF Tryz.func51 rfl rfl (by decide) rfl ?_
  refine sA [] rfl ?_
  refine ev_call rfl rfl rfl (fnv s w hs) ?_
  rintro r w1 ⟨rfl, rfl⟩
  refine sA [] rfl ?_
  refine ev_make tabOk rfl rfl rfl inf5 rfl rfl (by omega) (by omega) (by omega) (fun q w2 hq hR hf2 => ?_)
  have hR : Blk w2 q ((leB (fnvL s) 0 ++ List.replicate (8 - 0) (0 : UInt8)).map bv) 5 := by
    have e : (madeCells (Value.int .u8 0).cells (Int.toNat 8 * 1)).toList = (leB (fnvL s) 0 ++ List.replicate (8 - 0) (0 : UInt8)).map bv := by
      rw [show Int.toNat 8 * 1 = 8 from rfl]
      exact toList_madeCells_one _ _
    rw [← e]; exact hR
  refine sA [] rfl ?_
  refine ev_loop (α := Nat) (fun k => [(3, .int .u64 (fnvL s)), (4, .slice (some ⟨q, 0, none⟩) 8 8), (10, i64 8), (11, i64 k)]) (fun k w' => k ≤ 8 ∧ Blk w' q ((leB (fnvL s) k ++ List.replicate (8 - k) (0 : UInt8)).map bv) 5 ∧ Fr no w1 w') (fun k => 8 - k) 0 ⟨rfl, rfl, rfl, rfl, trivial⟩ ⟨Nat.zero_le _, hR, hf2⟩ ?_
  rintro k w3 ⟨hk, hB, hF⟩
  refine sC [] rfl ?_; refine sD [] rfl ?_
  refine ev_condD rfl (fun c => ?_) (fun c => ?_)
  · refine sA [] rfl ?_; refine ev_arith rfl rfl rfl rfl rfl (by simp only [lowK, hiK]; omega) ?_
    refine ev_shr rfl rfl rfl rfl (by omega) (by simp only [IntKind.bits]; omega) ?_
    skip
    refine ev_convW rfl rfl tabOk rfl rfl rfl ?_
    refine ev_indexAddr rfl rfl tabOk rfl rfl rfl (by omega) (by omega) ?_
    refine ev_store tabOk rfl rfl rfl rfl rfl rfl hB (blt_of (by rw [List.length_map, List.length_append, leB_len, List.length_replicate]; omega)) (fun w4 hB4 f4 => ?_)
    have hv : Value.int .u8 (IntKind.u8.wrap ((fnvL s).fdiv (2 ^ (8 * (k : Int)).toNat))) = bv (byteAt (fnvL s) k) := by
      rw [byteAt_val, wrap_u8, Int.fdiv_eq_ediv_of_nonneg _ (Int.le_of_lt (Int.pow_pos (by omega)))]
      rw [show (8 * (k : Int)).toNat = 8 * k by omega, Int.pow_mul]
      rfl
    rw [setV_eq, hv, show 0 + (k : Int).toNat * 1 = k by omega, leB_set (by omega)] at hB4
    refine sA [] rfl ?_; refine ev_arith rfl rfl rfl rfl rfl (by simp only [lowK, hiK]; omega) ?_; refine sA [] rfl ?_
    refine ev_next (k + 1) (by omega) ⟨by omega, hB4, hF.trans f4 fun z hz e => by have : z = q := e; omega⟩ ⟨rfl, rfl, rfl, by rw [show ((k + 1 : Nat) : Int) = (k : Int) + 1 by omega]; rfl, trivial⟩
  · refine sA [] rfl ?_
    obtain rfl : k = 8 := by omega
    rw [Nat.sub_self, List.replicate_zero, List.append_nil] at hB
    refine ev_strOf (A := some ⟨q, 0, none⟩) (cap := 8) (bs := leB (fnvL s) 8) rfl rfl tabOk rfl rfl rfl rfl (Cs.of_blk hB) ?_
    refine sA [] rfl ?_
    exact ret1 (.inr rfl) rfl rfl ⟨rfl, hF⟩
/-- a file's reader, at block p; its bytes' reader at q -/
structure Rs (w : World) (p q : Nat) (t : List UInt8) (x : Sc) : Prop where
  k : Blk w p [.pointer (some ⟨q, 0, none⟩), i64 x.e] 144
  r : Rd w q t x.i
  ne : p ≠ q
  le : x.i ≤ t.length
abbrev pq (p q : Nat) : Nat → Prop := fun c => c = p ∨ c = q
section
variable {w w' : World} {p q : Nat} {t : List UInt8} {x : Sc}
theorem Rs.fr {S : Nat → Prop} (h : Rs w p q t x) (hf : Fr S w w') (h1 : ¬ S p) (h2 : ¬ S q) : Rs w' p q t x := ⟨h.k.fr hf h1, h.r.fr hf h2, h.ne, h.le⟩
theorem Rs.fr0 (h : Rs w p q t x) (hf : Fr no w w') : Rs w' p q t x := h.fr hf id id
end
theorem wNum (p q : Nat) (t : List UInt8) (x : Sc) (b : Int) (w : World) (h : Rs w p q t x) (ht : t.length ≤ 140737488355232) :
    CallsF Tryz.prog 86 [.pointer (some ⟨p, 0, none⟩), i64 b] w fun v w' => v = i64 (rNum b t x).2 ∧ Rs w' p q t (rNum b t x).1 ∧ Fr (pq p q) w w' := by
  have kp := h.k
  unfold rNum
  refine callsF Tryz.func86 rfl rfl (by decide) rfl ?_
  refine sA [] rfl ?_; refine ev_loadB rfl rfl tabOk rfl rfl ‹_› (by rfl) ?_; refine sD [] rfl ?_; refine sD [] rfl ?_
  refine ev_condD rfl (fun c => ?_) (fun c => ?_)
  · rw [if_neg (show ¬ x.e = 0 by simpa using c)]
    refine sA [] rfl ?_
    exact ret1 (.inr rfl) rfl rfl ⟨rfl, h, Fr.refl _ _⟩
  · rw [if_pos (show x.e = 0 by simpa using c)]
    refine sA [] rfl ?_; refine ev_loadB rfl rfl tabOk rfl rfl ‹_› (by rfl) ?_; refine sA [] rfl ?_
    refine ev_call rfl rfl rfl (rdNumber q t x.i b w h.r h.le ht) ?_
    rintro r w1 ⟨rfl, hr, f1⟩
    have kp1 := kp.fr f1 h.ne
    refine sA [] rfl ?_
    refine ev_store tabOk rfl rfl rfl rfl rfl rfl kp1 rfl (fun w2 kp2 f2 => ?_)
    have kp2 : Blk w2 p [.pointer (some ⟨q, 0, none⟩), i64 (rnE t x.i b)] 144 := kp2
    refine sA [] rfl ?_
    exact ret1 (.inr rfl) rfl rfl ⟨rfl, ⟨kp2, hr.fr f2 (fun e => h.ne e.symm), h.ne, rnA_le h.le⟩, (f1.mono fun z _ e => .inr e).trans f2 fun z _ e => .inl e⟩
theorem wRow8 (p q : Nat) (t : List UInt8) (x : Sc) (b : Int) (w : World) (h : Rs w p q t x) (ht : t.length ≤ 140737488355232) :
    CallsF Tryz.prog 89 [.pointer (some ⟨p, 0, none⟩), i64 b] w fun v w' => ∃ r : Rw, v = r.v ∧ r.xs = (rRow b t x).2 ∧ OR w w' r ∧ Rs w' p q t (rRow b t x).1 ∧ Fr (pq p q) w w' := by
  have kp := h.k
  unfold rRow
  refine callsF Tryz.func89 rfl rfl (by decide) rfl ?_
  refine sA [] rfl ?_; refine ev_loadB rfl rfl tabOk rfl rfl ‹_› (by rfl) ?_; refine sD [] rfl ?_; refine sD [] rfl ?_
  refine ev_condD rfl (fun c => ?_) (fun c => ?_)
  · rw [if_neg (show ¬ x.e = 0 by simpa using c)]
    refine sA [] rfl ?_
    exact ret1 (.inr rfl) rfl rfl ⟨⟨none, 0, []⟩, rfl, rfl, ⟨Own.nil _ _ _, fun g hg => by cases hg⟩, h, Fr.refl _ _⟩
  · rw [if_pos (show x.e = 0 by simpa using c)]
    refine sA [] rfl ?_; refine ev_loadB rfl rfl tabOk rfl rfl ‹_› (by rfl) ?_; refine sA [] rfl ?_
    refine ev_call rfl rfl rfl (rdRow q t x.i b w h.r h.le ht) ?_
    rintro r w1 ⟨y, rfl, hy, hg, hr, f1⟩
    have kp1 := kp.fr f1 h.ne
    have hl := h.le
    have hrl := rrV_len t x.i b
    obtain ⟨A, c, rfl, _, _⟩ := hy.slice
    refine sA [] rfl ?_
    refine ev_store tabOk rfl rfl rfl rfl rfl rfl kp1 rfl (fun w2 kp2 f2 => ?_)
    have kp2 : Blk w2 p [.pointer (some ⟨q, 0, none⟩), i64 (rrE t x.i b)] 144 := kp2
    have hy2 := hy.fr f2 (fun g hg' e => by have := hg g hg'; have := kp.lt; have e : g = p := e; omega)
    refine sA [] rfl ?_
    refine ret1 (.inr rfl) rfl rfl ⟨⟨A, c, (rrV t x.i b).map UInt8.toInt8⟩, ?_, rfl, ⟨?_, ?_⟩, ⟨kp2, hr.fr f2 (fun e => h.ne e.symm), h.ne, rrA_le h.le⟩, (f1.mono fun z _ e => .inr e).trans f2 fun z _ e => .inl e⟩
    · show Value.slice A _ c = .slice A _ c
      rw [List.length_map]
    · show Own w2 _ 1 (.slice A _ c) _ _
      rw [List.length_map, List.map_map]
      exact hy2
    · intro g hg'
      have hg' : (Value.slice A (List.map UInt8.toInt8 (rrV t x.i b)).length c).ownBlock = some g := hg'
      rw [List.length_map] at hg'
      exact hg g hg'
theorem wChkR (p q : Nat) (t : List UInt8) (x : Sc) (b : Bool) (e : Int) (w : World) (h : Rs w p q t x) :
    CallsF Tryz.prog 87 [.pointer (some ⟨p, 0, none⟩), .bool b, i64 e] w fun v w' => Rs w' p q t (rChk b e t x).1 ∧ Fr (pq p q) w w' := by
  have kp := h.k
  unfold rChk
  refine callsF Tryz.func87 rfl rfl (by decide) rfl ?_
  refine sA [] rfl ?_; refine ev_loadB rfl rfl tabOk rfl rfl ‹_› (by rfl) ?_; refine sD [] rfl ?_; refine sD [] rfl ?_
  by_cases c : x.e = 0
  · rw [if_pos c, show decide (x.e = 0) = true from decide_eq_true c]
    refine sC [] rfl ?_
    cases b with
    | true =>
      refine sA [] rfl ?_
      exact ret0 (.inl rfl) rfl ⟨h, Fr.refl _ _⟩
    | false =>
      refine sA [] rfl ?_
      refine ev_store tabOk rfl rfl rfl rfl rfl rfl kp rfl (fun w2 kp2 f2 => ?_)
      have kp2 : Blk w2 p [.pointer (some ⟨q, 0, none⟩), i64 e] 144 := kp2
      refine sA [] rfl ?_
      exact ret0 (.inl rfl) rfl ⟨⟨kp2, h.r.fr f2 (fun e => h.ne e.symm), h.ne, h.le⟩, f2.mono fun z _ e => .inl e⟩
  · rw [if_neg c, show decide (x.e = 0) = false from decide_eq_false c]
    refine sA [] rfl ?_
    exact ret0 (.inl rfl) rfl ⟨h, Fr.refl _ _⟩
theorem rTxt_eq (t : List UInt8) (x : Sc) : rTxt t x = rRaw (rNum 1 t x).2 t (rChk (decide ((rNum 1 t x).2 ≤ 64)) 130 t (rNum 1 t x).1).1 := rfl
theorem wTxt (p q : Nat) (t : List UInt8) (x : Sc) (w : World) (h : Rs w p q t x) (ht : t.length ≤ 140737488355232) :
    CallsF Tryz.prog 88 [.pointer (some ⟨p, 0, none⟩)] w fun v w' => v = .string (sOf (rTxt t x).2) ∧ Rs w' p q t (rTxt t x).1 ∧ Fr (pq p q) w w' := by
  have kp := h.k
  rw [rTxt_eq]
  refine callsF Tryz.func88 rfl rfl (by decide) rfl ?_
  refine sA [] rfl ?_
  refine ev_call rfl rfl rfl (wNum p q t x 1 w h ht) ?_
  rintro r w1 ⟨rfl, h1, f1⟩
  refine sA [] rfl ?_
  refine ev_call rfl rfl rfl (wChkR p q t _ _ 130 w1 h1) ?_
  rintro r w2 ⟨h2, f2⟩
  obtain ⟨n, hn⟩ : ∃ n, n = (rNum 1 t x).2 := ⟨_, rfl⟩
  obtain ⟨y, hy⟩ : ∃ y, y = (rChk (decide ((rNum 1 t x).2 ≤ 64)) 130 t (rNum 1 t x).1).1 := ⟨_, rfl⟩
  rw [← hy] at h2 ⊢
  rw [← hn]
  have kp2 := h2.k
  have f12 := f1.trans f2 fun z _ e => e
  unfold rRaw
  refine sA [] rfl ?_; refine ev_loadB rfl rfl tabOk rfl rfl ‹_› (by rfl) ?_; refine sD [] rfl ?_; refine sD [] rfl ?_
  refine ev_condD rfl (fun c => ?_) (fun c => ?_)
  · rw [if_neg (show ¬ y.e = 0 by simpa using c)]
    refine sA [] rfl ?_
    exact ret1 (.inr rfl) rfl rfl ⟨rfl, h2, f12⟩
  · rw [if_pos (show y.e = 0 by simpa using c)]
    refine sA [] rfl ?_; refine ev_loadB rfl rfl tabOk rfl rfl ‹_› (by rfl) ?_; refine sA [] rfl ?_
    refine ev_call rfl rfl rfl (rdRaw q t y.i n w2 h2.r h2.le ht) ?_
    rintro r w3 ⟨rfl, hr, f3⟩
    have kp3 := kp2.fr f3 h.ne
    refine sA [] rfl ?_
    refine ev_store tabOk rfl rfl rfl rfl rfl rfl kp3 rfl (fun w4 kp4 f4 => ?_)
    have kp4 : Blk w4 p [.pointer (some ⟨q, 0, none⟩), i64 (rrE t y.i n)] 144 := kp4
    refine sA [] rfl ?_
    exact ret1 (.inr rfl) rfl rfl ⟨rfl, ⟨kp4, hr.fr f4 (fun e => h.ne e.symm), h.ne, rrA_le h2.le⟩, (f12.trans f3 fun z _ e => .inr e).trans f4 fun z _ e => .inl e⟩
abbrev ptA (p o : Nat) : Value := .pointer (some ⟨p, o, none⟩)
theorem fSizes (p o : Nat) (w : World) :
    CallsF Tryz.prog 62 [ptA p o] w fun v w' => ∃ b, v = .slice (some ⟨b, 0, none⟩) 6 6 ∧ w.heap.size ≤ b ∧ Blk w' b [ptA p (o + 0), ptA p (o + 1), ptA p (o + 2), ptA p (o + 3), ptA p (o + 4), ptA p (o + 5)] 112 ∧ Fr no w w' := by
  refine callsF Tryz.func62 rfl rfl (by decide) rfl ?_
  refine sA [] rfl ?_
  refine mix_in mixed (fun w1 f1 => ?_)
  refine mA rfl (by kernel_rfl) (by kernel_rfl) ?_
  refine mix1 rfl rfl ?_
  refine ev_buildSlice tabOk rfl rfl rfl inf112 rfl rfl rfl (fun v hv => by simp at hv; rcases hv with rfl | rfl | rfl | rfl | rfl | rfl <;> rfl) rfl (fun b w2 hb kb f2 => ?_)
  refine mix_op ?_
  refine mA rfl (by kernel_rfl) (by kernel_rfl) ?_
  refine mix_out rfl ?_
  refine sA [] rfl ?_
  exact ret1 (.inr rfl) rfl rfl ⟨b, rfl, Nat.le_trans f1.size hb, kb, f1.tr f2⟩
theorem fShifts (p o : Nat) (w : World) :
    CallsF Tryz.prog 17 [ptA p o] w fun v w' => ∃ b, v = .slice (some ⟨b, 0, none⟩) 8 8 ∧ w.heap.size ≤ b ∧ Blk w' b [ptA p (o + 6), ptA p (o + 7), ptA p (o + 8), ptA p (o + 9), ptA p (o + 10), ptA p (o + 11 + 3), ptA p (o + 11 + 4), ptA p (o + 11 + 5)] 112 ∧ Fr no w w' := by
  refine callsF Tryz.func17 rfl rfl (by decide) rfl ?_
  refine sA [] rfl ?_
  refine mix_in mixed (fun w1 f1 => ?_)
  refine mA rfl (by kernel_rfl) (by kernel_rfl) ?_
  refine mix1 rfl rfl ?_
  refine ev_buildSlice tabOk rfl rfl rfl inf112 rfl rfl rfl (fun v hv => by simp at hv; rcases hv with rfl | rfl | rfl | rfl | rfl | rfl | rfl | rfl <;> rfl) rfl (fun b w2 hb kb f2 => ?_)
  refine mix_op ?_
  refine mA rfl (by kernel_rfl) (by kernel_rfl) ?_
  refine mix_out rfl ?_
  refine sA [] rfl ?_
  exact ret1 (.inr rfl) rfl rfl ⟨b, rfl, Nat.le_trans f1.size hb, kb, f1.tr f2⟩
theorem fLists (s : Shp) (p o : Nat) (w : World) (hd : 0 ≤ s.dim ∧ s.dim ≤ 1000000) (hh : 0 ≤ s.hid ∧ s.hid ≤ 1000000) :
    CallsF Tryz.prog 18 [shpV s, ptA p o] w fun v w' => ∃ b c, v = .tuple #[.slice (some ⟨b, 0, none⟩) 9 9, .slice (some ⟨c, 0, none⟩) 9 9] ∧ w.heap.size ≤ b ∧ w.heap.size ≤ c ∧
      Blk w' b [ptA p (o + 0), ptA p (o + 1), ptA p (o + 2), ptA p (o + 3), ptA p (o + 4), ptA p (o + 5), ptA p (o + 11 + 0), ptA p (o + 11 + 1), ptA p (o + 11 + 2)] 81 ∧ Blk w' c ((manyQ s).map i64) 3 ∧ Fr no w w' := by
  have hm1 := mul_bd hd.1 hd.2 hd.1 hd.2
  have hm2 := mul_bd hh.1 hh.2 hd.1 hd.2
  refine callsF Tryz.func18 rfl rfl (by decide) rfl ?_
  refine sA [] rfl ?_
  refine ev_box rfl rfl rfl fun k w1 hk kk f1 => ?_
  have kk : Blk w1 k (shpC s) 35 := kk
  refine sA [] rfl ?_
  refine ev_draw mixed (by kernel_rfl) ?_
  refine qA rfl ?_; refine q_loadB rfl rfl tabOk rfl rfl ‹_› (by rfl) ?_; refine qA rfl ?_; refine q_loadB rfl rfl tabOk rfl rfl ‹_› (by rfl) ?_; refine qA rfl ?_; refine q_loadB rfl rfl tabOk rfl rfl ‹_› (by rfl) ?_; refine q_arith rfl rfl rfl rfl rfl (by simp only [lowK, hiK]; omega) ?_; refine qA rfl ?_; refine q_loadB rfl rfl tabOk rfl rfl ‹_› (by rfl) ?_; refine qA rfl ?_; refine q_loadB rfl rfl tabOk rfl rfl ‹_› (by rfl) ?_; refine q_arith rfl rfl rfl rfl rfl (by simp only [lowK, hiK]; omega) ?_; refine qA rfl ?_
  refine q_end (fun w2 f2 => ?_)
  refine sA [] rfl ?_
  refine mix_in mixed (fun w3 f3 => ?_)
  refine mA rfl (by kernel_rfl) (by kernel_rfl) ?_
  refine mix2 rfl rfl rfl ?_ ?_
  · refine ev_buildSlice tabOk rfl rfl rfl inf81 rfl rfl rfl (fun v hv => by simp at hv; rcases hv with rfl | rfl | rfl | rfl | rfl | rfl | rfl | rfl | rfl <;> rfl) rfl (fun b w4 hb kb f4 => ?_)
    refine mix_op ?_
    refine mA rfl (by kernel_rfl) (by kernel_rfl) ?_
    refine mix1 rfl rfl ?_
    refine ev_buildSlice tabOk rfl rfl rfl inf3 rfl rfl rfl (fun v hv => by simp at hv; rcases hv with rfl | rfl | rfl | rfl | rfl | rfl | rfl | rfl | rfl <;> rfl) rfl (fun c w5 hc kc f5 => ?_)
    refine mix_op ?_
    refine mA rfl (by kernel_rfl) (by kernel_rfl) ?_
    refine mix_out rfl ?_
    refine sA [] rfl ?_
    have h13 := (f1.tr f2).tr f3
    exact ret2 (.inr rfl) rfl rfl rfl ⟨b, c, rfl, Nat.le_trans h13.size hb, Nat.le_trans (h13.tr f4).size hc, kb.fr0 f5, kc, (h13.tr f4).tr f5⟩
  · refine ev_buildSlice tabOk rfl rfl rfl inf3 rfl rfl rfl (fun v hv => by simp at hv; rcases hv with rfl | rfl | rfl | rfl | rfl | rfl | rfl | rfl | rfl <;> rfl) rfl (fun c w4 hc kc f4 => ?_)
    refine mix_op ?_
    refine mix1 rfl rfl ?_
    refine ev_buildSlice tabOk rfl rfl rfl inf81 rfl rfl rfl (fun v hv => by simp at hv; rcases hv with rfl | rfl | rfl | rfl | rfl | rfl | rfl | rfl | rfl <;> rfl) rfl (fun b w5 hb kb f5 => ?_)
    refine mix_op ?_
    refine mA rfl (by kernel_rfl) (by kernel_rfl) ?_
    refine mix_out rfl ?_
    refine sA [] rfl ?_
    have h13 := (f1.tr f2).tr f3
    exact ret2 (.inr rfl) rfl rfl rfl ⟨b, c, rfl, Nat.le_trans (h13.tr f4).size hb, Nat.le_trans h13.size hc, kb, kc.fr0 f5, (h13.tr f4).tr f5⟩
end Go.Wk.YtdelgnflcfhhkaaGreatDoor
