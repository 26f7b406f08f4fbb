/-
  Taken for this seat out of ShYk.
-/
import Derived.Test.YtdelgnflcfhhkaaGreatDoorPSy
set_option linter.unusedVariables false
namespace Go.Wk.YtdelgnflcfhhkaaGreatDoor
open Go Go.Wk Go.Proofs
theorem bv_mod (x : Nat) {y : Int} (h : y = ((x % 256 : Nat) : Int)) : Value.int .u8 y = bv (UInt8.ofNat (x % 256)) := by
  generalize hz : x % 256 = z at *
  have hl : z < 256 := by rw [← hz]; exact Nat.mod_lt _ (by omega)
  show Value.int .u8 y = Value.int .u8 ((UInt8.ofNat z).toNat : Int)
  rw [UInt8.toNat_ofNat', h, Nat.mod_eq_of_lt hl]
theorem mrgs_succ (n : Nat) : mrgs (n + 1) = mrgs n ++ (if 256 ≤ n ∧ n ≤ 510 then [(1, (n : Int) - 255, (n : Int))] else []) := rfl
set_option maxHeartbeats 8000000 in
set_option maxRecDepth 20000 in
theorem refTexts (n : Nat) (w : World) (hn : 2 ≤ n ∧ n ≤ 512) :
    CallsF Tryz.prog 97 [i64 n] w fun r w' => ∃ A c B d, r = vv A c B d ⟨txts n, mrgs n⟩ ∧ Vo w' A B ⟨txts n, mrgs n⟩ ∧ Fr no w w' ∧ ∀ p, p < w.heap.size → CsOff p A ((txts n).map sv) ∧ CsOff p B (mcs (mrgs n)) := by
  refine callsF Tryz.func97 rfl rfl (by decide) rfl ?_
  refine sA [] rfl ?_
  refine ev_alloc rfl rfl inf53 (fun p2 w1 hp2 k2 f1 => ?_)
  refine sA [] rfl ?_
  refine ev_buildSlice tabOk rfl rfl rfl inf9 rfl rfl rfl (fun v hv => by simp at hv; rcases hv with rfl; rfl) rfl (fun b w2 hb hb2 f2 => ?_)
  skip
  refine ev_build rfl rfl (v := .agg ⟨[.slice (some ⟨b, 0, none⟩) 1 1, nilS]⟩) rfl (fun w => by kernel_rfl) ?_
  refine ev_alloc rfl rfl inf53 (fun p3 w3 hp3 k3 f3 => ?_)
  refine ev_storeAgg tabOk rfl rfl rfl rfl rfl rfl k3 rfl (fun w4 k34 f4 => ?_)
  have hp2l := k2.lt
  have hbl := hb2.lt
  have s1 := f1.size
  have s2 := f2.size
  have h24 : Fr no w2 w4 := f3.trans f4 fun z hz e => by have : z = p3 := e; omega
  have hF : Fr no w w4 := (f1.tr f2).tr h24
  have k24 : Blk w4 p2 [nilS, nilS] 53 := k2.fr0 (f2.tr h24)
  have hT : Own w4 9 1 (.slice (some ⟨b, 0, none⟩) 1 1) 1 ((txts 1).map sv) := own_of_blk (hb2.fr0 h24) rfl (by omega)
  have htb : ∀ g, (Value.slice (some ⟨b, 0, none⟩) 1 1).ownBlock = some g → w.heap.size ≤ g ∧ g ≠ p2 ∧ g ≠ p3 := fun g hg => by
    have e : some b = some g := hg
    cases e
    refine ⟨by omega, by omega, by omega⟩
  clear k2 k3 hb2
  refine sA [] rfl ?_
  refine ev_loop (α := Nat × Value × Value) (fun y => [(0, i64 n), (2, .pointer (some ⟨p2, 0, none⟩)), (3, .pointer (some ⟨p3, 0, none⟩)), (4, i64 y.1)])
    (fun y w' => (1 ≤ y.1 ∧ y.1 ≤ n) ∧ Fr no w w' ∧ Blk w' p2 [nilS, nilS] 53 ∧ Blk w' p3 [y.2.1, y.2.2] 53 ∧ Own w' 9 1 y.2.1 y.1 ((txts y.1).map sv) ∧ Own w' 134 3 y.2.2 (mrgs y.1).length (mcs (mrgs y.1)) ∧
      (∀ g, y.2.1.ownBlock = some g → w.heap.size ≤ g ∧ g ≠ p2 ∧ g ≠ p3) ∧ (∀ g, y.2.2.ownBlock = some g → w.heap.size ≤ g ∧ g ≠ p2 ∧ g ≠ p3 ∧ y.2.1.ownBlock ≠ some g)) (fun y => n - y.1) (1, .slice (some ⟨b, 0, none⟩) 1 1, nilS)
    ⟨rfl, rfl, rfl, rfl, trivial⟩ ⟨by show 1 ≤ 1 ∧ 1 ≤ n; omega, hF, k24, k34, hT, Own.nil _ _ _, htb, (fun g hg => by cases hg)⟩ ?_
  clear hF k24 k34 hT
  rintro ⟨i, tv, mv⟩ v0 ⟨hi, hF, k2, k3, hT, hM, ht, hm⟩
  dsimp only at hi k3 hT hM ht hm ⊢
  have hml := mrgs_len i
  have hwl := hF.size
  have hp2v := k2.lt
  have hp3v := k3.lt
  refine sC [] rfl ?_; refine sD [] rfl ?_; refine sD [] rfl ?_; refine sD [] rfl ?_
  refine ev_condD rfl (fun c => ?_) (fun c => ?_)
  · have hin : i < n := by have c : (i : Int) < n := c; omega
    have hts : txts (i + 1) = txts i ++ [txtF i] := txts_succ i
    refine sC [] rfl ?_; refine sC [] rfl ?_; refine sD [] rfl ?_
    refine ev_condD rfl (fun c2 => ?_) (fun c2 => ?_)
    · have c2 : (i : Int) < 256 := c2
      have hms : mrgs (i + 1) = mrgs i := by rw [mrgs_succ, if_neg (by omega), List.append_nil]
      have htx : txtF i = [UInt8.ofNat ((96 + i) % 256)] := by unfold txtF; rw [if_neg (by omega), if_pos (by omega)]
      refine sA [] rfl ?_; refine ev_loadB rfl rfl tabOk rfl rfl ‹_› (by rfl) ?_; refine sA [] rfl ?_; refine ev_arith rfl rfl rfl rfl rfl (by simp only [lowK, hiK]; omega) ?_; refine ev_rem rfl rfl rfl rfl (by omega) (by omega) ?_; refine ev_conv rfl rfl tabOk rfl rfl rfl (by simp only [lowK, hiK]; omega) ?_
      rw [bv_mod (y := (96 + (i : Int)) % 256) (96 + i) (by omega)]
      refine ev_buildSlice tabOk rfl rfl rfl inf5 rfl rfl rfl (fun v hv => by simp at hv; rcases hv with rfl; rfl) rfl (fun g5 v1 hg5 hb5 d1 => ?_)
      have hT1 := hT.fr0 d1
      refine ev_strOf (bs := [UInt8.ofNat ((96 + i) % 256)]) rfl rfl tabOk rfl rfl rfl rfl (Cs.of_blk hb5) ?_
      refine ev_append1 (vs := [sv [UInt8.ofNat ((96 + i) % 256)]]) tabOk rfl rfl (fun _ => rfl) rfl rfl inf9 rfl (by omega) (fun _ => rfl) rfl rfl (fun v hv => by rw [List.mem_singleton.1 hv]; rfl) (allOne_ok rfl) rfl hT1 (by omega) (fun tv' v2 bq hT2 d2 n2 => ?_)
      have h02 : Fr (fun g => tv.ownBlock = some g) v0 v2 := d1.tr0 d2
      have ht' : ∀ g, tv'.ownBlock = some g → w.heap.size ≤ g ∧ g ≠ p2 ∧ g ≠ p3 ∧ mv.ownBlock ≠ some g := fun g hg => by
        have := d1.size
        rcases n2 g hg with h | h
        · exact ⟨(ht g h).1, (ht g h).2.1, (ht g h).2.2, fun e => (hm g e).2.2.2 h⟩
        · exact ⟨by omega, by omega, by omega, fun e => by have := hM.lt e; omega⟩
      have k3' := k3.fr h02 (fun e => (ht _ e).2.2 rfl)
      have k2' := k2.fr h02 (fun e => (ht _ e).2.1 rfl)
      have hM2 := hM.fr h02 (fun g hg e => (hm g hg).2.2.2 e)
      have hF2 : Fr no w v2 := hF.trans h02 fun z hz e => by have := (ht z e).1; omega
      refine sA [] rfl ?_
      refine ev_store tabOk rfl rfl rfl rfl rfl (own1 hT2) k3' rfl (fun v3 k33 d3 => ?_)
      refine sA [] rfl ?_; refine ev_arith rfl rfl rfl rfl rfl (by simp only [lowK, hiK]; omega) ?_; refine sA [] rfl ?_
      refine fun a hA => ⟨(i + 1, tv', mv), by show n - (i + 1) < n - i; omega, ⟨by show 1 ≤ i + 1 ∧ i + 1 ≤ n; omega, hF2.trans d3 fun z hz e => by have : z = p3 := e; omega, k2'.fr d3 (fun e => by have : p2 = p3 := e; omega), k33, ?_, ?_, fun g hg => have z := ht' g hg; ⟨z.1, z.2.1, z.2.2.1⟩, fun g hg => have z := hm g hg; ⟨z.1, z.2.1, z.2.2.1, fun e => (ht' g e).2.2.2 hg⟩⟩,
        hA.sub ⟨rfl, rfl, rfl, by show _ = some (i64 ((i + 1 : Nat) : Int)); rw [show ((i + 1 : Nat) : Int) = (i : Int) + 1 by omega]; rfl, trivial⟩⟩
      · show Own v3 9 1 tv' (i + 1) ((txts (i + 1)).map sv)
        rw [hts, List.map_append, htx]
        exact hT2.fr d3 (fun g hg e => (ht' g hg).2.2.1 e)
      · show Own v3 134 3 mv (mrgs (i + 1)).length (mcs (mrgs (i + 1)))
        rw [hms]
        exact hM2.fr d3 (fun g hg e => (hm g hg).2.2.1 e)
    · have c2 : ¬ (i : Int) < 256 := c2
      have htx : txtF i = [97, UInt8.ofNat ((97 + i - 256) % 256)] := by unfold txtF; rw [if_neg (by omega), if_neg (by omega)]
      refine sA [] rfl ?_; refine ev_loadB rfl rfl tabOk rfl rfl ‹_› (by rfl) ?_; refine sA [] rfl ?_; refine ev_arith rfl rfl rfl rfl rfl (by simp only [lowK, hiK]; omega) ?_; refine ev_arith rfl rfl rfl rfl rfl (by simp only [lowK, hiK]; omega) ?_; refine ev_rem rfl rfl rfl rfl (by omega) (by omega) ?_; refine ev_conv rfl rfl tabOk rfl rfl rfl (by simp only [lowK, hiK]; omega) ?_
      rw [bv_mod (y := (97 + (i : Int) - 256) % 256) (97 + i - 256) (by omega)]
      refine ev_buildSlice tabOk rfl rfl rfl inf5 rfl rfl rfl (fun v hv => by simp at hv; rcases hv with rfl | rfl <;> rfl) rfl (fun g5 v1 hg5 hb5 d1 => ?_)
      have hT1 := hT.fr0 d1
      refine ev_strOf (bs := [97, UInt8.ofNat ((97 + i - 256) % 256)]) rfl rfl tabOk rfl rfl rfl rfl (Cs.of_blk hb5) ?_
      refine ev_append1 (vs := [sv [97, UInt8.ofNat ((97 + i - 256) % 256)]]) tabOk rfl rfl (fun _ => rfl) rfl rfl inf9 rfl (by omega) (fun _ => rfl) rfl rfl (fun v hv => by rw [List.mem_singleton.1 hv]; rfl) (allOne_ok rfl) rfl hT1 (by omega) (fun tv' v2 bq hT2 d2 n2 => ?_)
      have h02 : Fr (fun g => tv.ownBlock = some g) v0 v2 := d1.tr0 d2
      have ht' : ∀ g, tv'.ownBlock = some g → w.heap.size ≤ g ∧ g ≠ p2 ∧ g ≠ p3 ∧ mv.ownBlock ≠ some g := fun g hg => by
        have := d1.size
        rcases n2 g hg with h | h
        · exact ⟨(ht g h).1, (ht g h).2.1, (ht g h).2.2, fun e => (hm g e).2.2.2 h⟩
        · exact ⟨by omega, by omega, by omega, fun e => by have := hM.lt e; omega⟩
      have k3' := k3.fr h02 (fun e => (ht _ e).2.2 rfl)
      have k2' := k2.fr h02 (fun e => (ht _ e).2.1 rfl)
      have hM2 := hM.fr h02 (fun g hg e => (hm g hg).2.2.2 e)
      have hF2 : Fr no w v2 := hF.trans h02 fun z hz e => by have := (ht z e).1; omega
      refine sA [] rfl ?_
      refine ev_store tabOk rfl rfl rfl rfl rfl (own1 hT2) k3' rfl (fun v3 k33 d3 => ?_)
      have hF3 : Fr no w v3 := hF2.trans d3 fun z hz e => by have : z = p3 := e; omega
      have k23 := k2'.fr d3 (fun e => by have : p2 = p3 := e; omega)
      have hT3 : Own v3 9 1 tv' (i + 1) ((txts (i + 1)).map sv) := by
        rw [hts, List.map_append, htx]
        exact hT2.fr d3 (fun g hg e => (ht' g hg).2.2.1 e)
      have hM3 := hM2.fr d3 (fun g hg e => (hm g hg).2.2.1 e)
      have hl3 := hF3.size
      have hp2w := k23.lt
      have hp3w := k33.lt
      have k33 : Blk v3 p3 [tv', mv] 53 := k33
      clear k2 k3 k2' k3' hT hT1 hT2 hM hM2 hb5
      refine sC [] rfl ?_; refine sD [] rfl ?_; refine sD [] rfl ?_
      refine ev_condD rfl (fun c3 => ?_) (fun c3 => ?_)
      · have c3 : (i : Int) ≤ 510 := c3
        have hms : mrgs (i + 1) = mrgs i ++ [(1, (i : Int) - 255, (i : Int))] := by rw [mrgs_succ, if_pos (by omega)]
        refine sA [] rfl ?_; refine ev_loadB rfl rfl tabOk rfl rfl ‹_› (by rfl) ?_; refine sA [] rfl ?_; refine ev_arith rfl rfl rfl rfl rfl (by simp only [lowK, hiK]; omega) ?_; refine sA [] rfl ?_
        refine ev_build rfl rfl (v := .agg ⟨mrg1 (1, (i : Int) - 255, (i : Int))⟩) rfl (fun w => by kernel_rfl) ?_
        refine ev_append1 (vs := [.agg ⟨mrg1 (1, (i : Int) - 255, (i : Int))⟩]) tabOk rfl rfl (fun _ => rfl) rfl rfl inf134 rfl (by omega) (fun _ => rfl) rfl rfl (fun v hv => by rw [List.mem_singleton.1 hv]; rfl) (allOne_ok rfl) rfl hM3 (by omega) (fun mv' v4 bq2 hM4 d4 n4 => ?_)
        have hm' : ∀ g, mv'.ownBlock = some g → w.heap.size ≤ g ∧ g ≠ p2 ∧ g ≠ p3 ∧ tv'.ownBlock ≠ some g := fun g hg => by
          rcases n4 g hg with h | h
          · have z := hm g h; exact ⟨z.1, z.2.1, z.2.2.1, fun e => (ht' g e).2.2.2 h⟩
          · exact ⟨by omega, by omega, by omega, fun e => by have := hT3.lt e; omega⟩
        have k34 := k33.fr d4 (fun e => (hm _ e).2.2.1 rfl)
        have k24 := k23.fr d4 (fun e => (hm _ e).2.1 rfl)
        have hT4 := hT3.fr d4 (fun g hg e => (ht' g hg).2.2.2 e)
        have hF4 : Fr no w v4 := hF3.trans d4 fun z hz e => by have := (hm z e).1; omega
        refine sA [] rfl ?_
        refine ev_store tabOk rfl rfl rfl rfl rfl (own1 hM4) k34 rfl (fun v5 k35 d5 => ?_)
        refine sA [] rfl ?_; refine ev_arith rfl rfl rfl rfl rfl (by simp only [lowK, hiK]; omega) ?_; refine sA [] rfl ?_
        refine fun a hA => ⟨(i + 1, tv', mv'), by show n - (i + 1) < n - i; omega, ⟨by show 1 ≤ i + 1 ∧ i + 1 ≤ n; omega, hF4.trans d5 fun z hz e => by have : z = p3 := e; omega, k24.fr d5 (fun e => by have : p2 = p3 := e; omega), k35, hT4.fr d5 (fun g hg e => (ht' g hg).2.2.1 e), ?_, fun g hg => have z := ht' g hg; ⟨z.1, z.2.1, z.2.2.1⟩, hm'⟩,
          hA.sub ⟨rfl, rfl, rfl, by show _ = some (i64 ((i + 1 : Nat) : Int)); rw [show ((i + 1 : Nat) : Int) = (i : Int) + 1 by omega]; rfl, trivial⟩⟩
        show Own v5 134 3 mv' (mrgs (i + 1)).length (mcs (mrgs (i + 1)))
        rw [hms, List.length_append, show mcs (mrgs i ++ [(1, (i : Int) - 255, (i : Int))]) = mcs (mrgs i) ++ flatV [.agg ⟨mrg1 (1, (i : Int) - 255, (i : Int))⟩] by unfold mcs; rw [List.flatMap_append]; rfl]
        exact hM4.fr d5 (fun g hg e => (hm' g hg).2.2.1 e)
      · have c3 : ¬ (i : Int) ≤ 510 := c3
        have hms : mrgs (i + 1) = mrgs i := by rw [mrgs_succ, if_neg (by omega), List.append_nil]
        refine sA [] rfl ?_; refine ev_arith rfl rfl rfl rfl rfl (by simp only [lowK, hiK]; omega) ?_; refine sA [] rfl ?_
        refine fun a hA => ⟨(i + 1, tv', mv), by show n - (i + 1) < n - i; omega, ⟨by show 1 ≤ i + 1 ∧ i + 1 ≤ n; omega, hF3, k23, k33, hT3, ?_, fun g hg => have z := ht' g hg; ⟨z.1, z.2.1, z.2.2.1⟩, fun g hg => have z := hm g hg; ⟨z.1, z.2.1, z.2.2.1, fun e => (ht' g e).2.2.2 hg⟩⟩,
          hA.sub ⟨rfl, rfl, rfl, by show _ = some (i64 ((i + 1 : Nat) : Int)); rw [show ((i + 1 : Nat) : Int) = (i : Int) + 1 by omega]; rfl, trivial⟩⟩
        show Own v3 134 3 mv (mrgs (i + 1)).length (mcs (mrgs (i + 1)))
        rw [hms]; exact hM3
  · obtain rfl : i = n := by have c : ¬ (i : Int) < n := c; omega
    obtain ⟨A, tc, rfl, _⟩ := hT.slice
    obtain ⟨B, mc, rfl, _⟩ := hM.slice
    refine sA [] rfl ?_; refine ev_loadAggB rfl rfl tabOk rfl rfl ‹_› (by rfl) ?_
    refine ev_storeAgg tabOk rfl rfl rfl rfl rfl rfl k2 rfl (fun vz kz dz => ?_)
    have hT' := hT.fr dz (fun g hg e => (ht g hg).2.1 e)
    have hM' := hM.fr dz (fun g hg e => (hm g hg).2.1 e)
    refine sA [] rfl ?_
    have etl : (txts i).length = i := txts_len i
    refine retG tabOk (.inr rfl) rfl [vv A tc B mc ⟨txts i, mrgs i⟩] ⟨⟨_, rfl, .inl ⟨rfl, _, rfl, rfl, ?_⟩⟩, trivial⟩ ⟨A, tc, B, mc, rfl, ⟨own_cs hT', own_cs hM'⟩, hF.trans dz (fun z hz e => by have : z = p2 := e; omega), fun p hp => ⟨CsOff.own hT' fun g hg e => by have := (ht g hg).1; omega, CsOff.own hM' fun g hg e => by have := (hm g hg).1; omega⟩⟩
    have := Cs.of_blk kz
    rw [← etl] at this
    rw [etl] at this
    show Cs vz _ [.slice A (txts i).length tc, .slice B (mrgs i).length mc]
    rw [etl]; exact this
end Go.Wk.YtdelgnflcfhhkaaGreatDoor
