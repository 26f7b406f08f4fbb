/-
  Chapter 16: Sample, the program's.
-/
import Derived.Test.YtfgllkflnkolhaaDoorShE
set_option linter.unusedVariables false
namespace Go.Wk.YtfgllkflnkolhaaDoor
open Go Go.Wk Go.Proofs

/-- the model of nothing -/
def zB : Rw := ⟨none, 0, []⟩
def zM : LM := ⟨⟨0, 0, 0, 0, 0, 0⟩, none, 0, none, 0, ⟨[], []⟩, zB, 0, zB, zB, none, 0, [], zB, zB, zB, 0⟩
theorem wrap_u8' (x : Int) : IntKind.u8.wrap x = x % 256 := by simp [IntKind.wrap, IntKind.signed, IntKind.bits]
theorem u8_v {x : Int} (h : 0 ≤ x) : Value.int .u8 (IntKind.u8.wrap x) = bv (UInt8.ofNat (x.toNat % 256)) := by
  show Value.int .u8 _ = Value.int .u8 ((UInt8.ofNat (x.toNat % 256)).toNat : Int)
  rw [wrap_u8', UInt8.toNat_ofNat']; congr 1; omega
theorem own1 {w : World} {e sz n : Nat} {v : Value} {xs : List Value} (h : Own w e sz v n xs) : v.oneCell' = true := by
  rcases h.2 with ⟨rfl, _⟩ | ⟨g, cap, cur, rfl, _⟩ <;> rfl
abbrev nilS : Value := .slice none 0 0
/-- the cells of a model under way -/
abbrev smC (n c d k l h : Nat) (tv mv e cos sin bv bend gain un : Value) (ls : Int) : List Value := [i64 n, i64 c, i64 d, i64 k, i64 l, i64 h, tv, mv, e, i64 2, cos, sin, bv, bend, gain, un, i64 ls]
/-- the cells of a block under way -/
abbrev bkX (d : Nat) (g1 q k v o g2 ga up dn : Value) (gs us ds : Int) : List Value := [g1, q, k, v, o, g2, i64 (7 + levQ d), i64 (7 + levQ d), i64 (7 + levQ d), i64 (4 + levQ d), i64 3, ga, up, dn, i64 gs, i64 us, i64 ds]
abbrev slB (q n : Nat) : Value := .slice (some ⟨q, 0, none⟩) n n
theorem seed_eq (n : Int) : IntKind.u64.wrap n = (seed64 n : Nat) := by rw [wrap_u64]; unfold seed64; omega
set_option maxHeartbeats 8000000 in
set_option maxRecDepth 20000 in
theorem wSampleOk (n c d k l h hh : Nat) (seed : Int) (w : World) (o : okS ⟨n, c, d, k, l, h⟩) (hhh : halfS ⟨n, c, d, k, l, h⟩ = hh) (hseed : -9223372036854775808 ≤ seed ∧ seed ≤ 9223372036854775807) (hT : QT w) :
    CallsF Tryd.prog 20 [shpV ⟨n, c, d, k, l, h⟩, i64 seed] w fun r w' => ∃ m, r = .tuple #[lmV m, i64 0] ∧ m.p = sampleP ⟨n, c, d, k, l, h⟩ seed ∧ OwnM 114 60 w w' m := by
  have hw0 := hT.lt
  have hb := half_bd o
  rw [hhh] at hb
  have hok := o
  obtain ⟨h1, h2, h3, h4, h5, h6, h7, h8⟩ := hok
  simp only at h1 h2 h3 h4 h7 h8
  refine callsF Tryd.func20 rfl rfl (by decide) rfl ?_
  refine sA [] rfl ?_
  refine ev_box rfl rfl rfl (fun p2 w1 hp2 hB1 hf1 => ?_)
  have hB1 : Blk w1 p2 (shpC ⟨n, c, d, k, l, h⟩) _ := hB1
  refine ev_alloc rfl rfl inf51 (fun p4 w2 hp4 hD2 hf2 => ?_)
  have hB2 := hB1.fr0 hf2
  have hF2 := hf1.tr hf2
  have hp24 := hB1.lt
  clear hB1
  refine sA [] rfl ?_; refine ev_loadAggB rfl rfl tabOk rfl rfl ‹_› (by rfl) ?_
  refine ev_call rfl rfl rfl (wChk ⟨n, c, d, k, l, h⟩ _) (fun r w3 hr => ?_)
  obtain ⟨rfl, hf3⟩ := hr
  rw [chk_y o]
  have hB3 := hB2.fr0 hf3
  have hD3 := hD2.fr0 hf3
  have hF3 := hF2.tr hf3
  clear hB2 hD2
  refine sA [] rfl ?_
  refine ev_draw mixed (by kernel_rfl) ?_
  refine qA rfl ?_; refine q_loadB rfl rfl tabOk rfl rfl ‹_› (by rfl) ?_; refine qA rfl ?_; refine q_loadB rfl rfl tabOk rfl rfl ‹_› (by rfl) ?_; refine qA rfl ?_
  refine q_end fun w4 hf4 => ?_
  have hB4 := hB3.fr0 hf4
  have hD4 := hD3.fr0 hf4
  have hF4 := hF3.tr hf4
  clear hB3 hD3
  refine sA [] rfl ?_
  refine ev_convW rfl rfl tabOk rfl rfl rfl ?_
  rw [seed_eq]
  refine ev_alloc rfl rfl inf110 (fun x w5 hx hX5 hf5 => ?_)
  have hB5 := hB4.fr0 hf5
  have hD5 := hD4.fr0 hf5
  have hF5 := hF4.tr hf5
  have hl2 := hB4.lt
  have hl4 := hD4.lt
  clear hB4 hD4
  refine ev_store tabOk rfl rfl rfl rfl rfl rfl hX5 rfl (fun w6 hX6 hf6 => ?_)
  have hX6 : Mk w6 x (seed64 seed) := hX6
  have hB6 := hB5.fr hf6 (fun e => by have : p2 = x := e; omega)
  have hD6 := hD5.fr hf6 (fun e => by have : p4 = x := e; omega)
  have hF6 : Fr no w w6 := hF5.trans hf6 fun z hz e => by have : z = x := e; have := hF4.size; omega
  clear hB5 hD5 hX5 hf6
  refine sA [] rfl ?_
  refine ev_join1 (α := Nat × Nat) (fun y => [(1, i64 seed), (2, .pointer (some ⟨p2, 0, none⟩)), (4, .pointer (some ⟨p4, 0, none⟩)), (7, i64 d), (8, i64 h), (9, .pointer (some ⟨x, 0, none⟩)), (10, .pointer (some ⟨y.2, 0, none⟩))])
    (fun y w' => Blk w' y.2 (smC n c d k l h nilS nilS nilS nilS nilS nilS nilS (.slice (some ⟨y.1, 0, none⟩) d d) nilS (4 + levQ d)) 51 ∧ R8 w' y.1 (gainF d) ∧ w6.heap.size ≤ y.1 ∧ w6.heap.size ≤ y.2 ∧ y.1 ≠ y.2 ∧ Fr no w6 w') ?_ ?_
  · refine mixC_in (fun w' => Fr no w6 w') mixed (fun w7 hf7 => ?_)
    refine mA rfl (by kernel_rfl) (by kernel_rfl) ?_
    refine m_loadAgg (xs := shpC ⟨n, c, d, k, l, h⟩) 0 rfl rfl rfl (by kernel_rfl) (by kernel_rfl) rfl rfl tabOk rfl rfl rfl (fun w' hw' => Cs.of_blk (hB6.fr0 hw')) ?_
    refine mix2 rfl rfl rfl ?_ ?_ hf7
    · refine ev_call rfl rfl rfl (wGains d _ (by omega)) (fun r w8 hr => ?_)
      obtain ⟨q, rfl, hR8, hq8, hf8⟩ := hr
      have hF8 := hf7.tr hf8
      refine mix_op ?_
      have hlv := levQ_le d
      refine mix2 rfl rfl rfl ?_ ?_ hF8
      · refine ev_call rfl rfl rfl (wLevel d _ (by omega)) (fun r w9 hr => ?_)
        obtain ⟨rfl, rfl⟩ := hr
        refine mix_op ?_
        refine m_arith 5 rfl rfl rfl (by kernel_rfl) (by kernel_rfl) rfl rfl rfl rfl rfl (by simp only [lowK, hiK]; omega) ?_
        refine m_build (v := .agg ⟨smC n c d k l h nilS nilS nilS nilS nilS nilS nilS (.slice (some ⟨q, 0, none⟩) d d) nilS (4 + levQ d)⟩) 6 rfl rfl rfl (by kernel_rfl) (by kernel_rfl) rfl rfl rfl (fun w => by kernel_rfl) ?_
        refine mix1 rfl rfl ?_ hF8
        refine ev_alloc rfl rfl inf51 (fun b wa hba hMa hfa => ?_)
        refine mix_op ?_
        have hs6 := hF8.size
        have hRl := hR8.lt
        refine mix1 rfl rfl ?_ (hF8.tr hfa)
        refine ev_storeAgg tabOk rfl rfl rfl rfl rfl rfl hMa rfl (fun wz hMz hfz => ?_)
        have hFz : Fr no w6 wz := (hF8.tr hfa).trans hfz fun z hz e => by have : z = b := e; omega
        refine mix_op ?_
        refine mix_out rfl ?_ hFz
        exact ev_out (q, b) ⟨hMz, (hR8.fr0 hfa).fr hfz (fun e => by have : q = b := e; omega), Nat.le_trans hf7.size hq8, Nat.le_trans hs6 hba, by simp only; omega, hFz⟩ ⟨rfl, rfl, rfl, rfl, rfl, rfl, rfl, trivial⟩
      · refine ev_alloc rfl rfl inf51 (fun b wa hba hMa hfa => ?_)
        refine mix_op ?_
        refine mix1 rfl rfl ?_ (hF8.tr hfa)
        refine ev_call rfl rfl rfl (wLevel d _ (by omega)) (fun r w9 hr => ?_)
        obtain ⟨rfl, rfl⟩ := hr
        refine mix_op ?_
        have hs6 := hF8.size
        have hRl := hR8.lt
        refine m_arith 5 rfl rfl rfl (by kernel_rfl) (by kernel_rfl) rfl rfl rfl rfl rfl (by simp only [lowK, hiK]; omega) ?_
        refine m_build (v := .agg ⟨smC n c d k l h nilS nilS nilS nilS nilS nilS nilS (.slice (some ⟨q, 0, none⟩) d d) nilS (4 + levQ d)⟩) 6 rfl rfl rfl (by kernel_rfl) (by kernel_rfl) rfl rfl rfl (fun w => by kernel_rfl) ?_
        refine mix1 rfl rfl ?_ (hF8.tr hfa)
        refine ev_storeAgg tabOk rfl rfl rfl rfl rfl rfl hMa rfl (fun wz hMz hfz => ?_)
        have hFz : Fr no w6 wz := (hF8.tr hfa).trans hfz fun z hz e => by have : z = b := e; omega
        refine mix_op ?_
        refine mix_out rfl ?_ hFz
        exact ev_out (q, b) ⟨hMz, (hR8.fr0 hfa).fr hfz (fun e => by have : q = b := e; omega), Nat.le_trans hf7.size hq8, Nat.le_trans hs6 hba, by simp only; omega, hFz⟩ ⟨rfl, rfl, rfl, rfl, rfl, rfl, rfl, trivial⟩
    · have hlv := levQ_le d
      refine ev_alloc rfl rfl inf51 (fun b wa hba hMa hfa => ?_)
      refine mix_op ?_
      have hFa := hf7.tr hfa
      have hMl := hMa.lt
      refine mix1 rfl rfl ?_ hFa
      refine ev_call rfl rfl rfl (wGains d _ (by omega)) (fun r w8 hr => ?_)
      obtain ⟨q, rfl, hR8, hq8, hf8⟩ := hr
      have hM8 := hMa.fr0 hf8
      have hF8 := hFa.tr hf8
      refine mix_op ?_
      refine mix1 rfl rfl ?_ hF8
      refine ev_call rfl rfl rfl (wLevel d _ (by omega)) (fun r w9 hr => ?_)
      obtain ⟨rfl, rfl⟩ := hr
      refine mix_op ?_
      have hs6 := hf7.size
      refine m_arith 5 rfl rfl rfl (by kernel_rfl) (by kernel_rfl) rfl rfl rfl rfl rfl (by simp only [lowK, hiK]; omega) ?_
      refine m_build (v := .agg ⟨smC n c d k l h nilS nilS nilS nilS nilS nilS nilS (.slice (some ⟨q, 0, none⟩) d d) nilS (4 + levQ d)⟩) 6 rfl rfl rfl (by kernel_rfl) (by kernel_rfl) rfl rfl rfl (fun w => by kernel_rfl) ?_
      refine mix1 rfl rfl ?_ hF8
      refine ev_storeAgg tabOk rfl rfl rfl rfl rfl rfl hM8 rfl (fun wz hMz hfz => ?_)
      have hFz : Fr no w6 wz := (hF8).trans hfz fun z hz e => by have : z = b := e; omega
      refine mix_op ?_
      refine mix_out rfl ?_ hFz
      exact ev_out (q, b) ⟨hMz, hR8.fr hfz (fun e => by have : q = b := e; omega), Nat.le_trans hFa.size hq8, by simp only; omega, by simp only; omega, hFz⟩ ⟨rfl, rfl, rfl, rfl, rfl, rfl, rfl, trivial⟩
  · rintro ⟨q, b⟩ w7 ⟨hM7, hR7, hq7, hb7, hqb, hf7⟩
    simp only at hM7 hR7 hq7 hb7 hqb
    have hB7 := hB6.fr0 hf7
    have hD7 := hD6.fr0 hf7
    have hX7 := hX6.fr0 hf7
    have hF7 := hF6.tr hf7
    have hxl := hX6.lt
    clear hB6 hD6 hX6
    refine sA [] rfl ?_; refine ev_loadB rfl rfl tabOk rfl rfl ‹_› (by rfl) ?_; refine sA [] rfl ?_
    have hlt7 : b < w7.heap.size := hM7.lt
    refine ev_loop (α := Nat × Value × Value) (fun y => [(1, i64 seed), (2, .pointer (some ⟨p2, 0, none⟩)), (4, .pointer (some ⟨p4, 0, none⟩)), (7, i64 d), (8, i64 h), (9, .pointer (some ⟨x, 0, none⟩)), (10, .pointer (some ⟨b, 0, none⟩)), (36, i64 n), (37, i64 y.1)])
      (fun y w' => y.1 ≤ n ∧ Blk w' b (smC n c d k l h y.2.1 y.2.2 nilS nilS nilS nilS nilS (.slice (some ⟨q, 0, none⟩) d d) nilS (4 + levQ d)) 51 ∧ Own w' 9 1 y.2.1 y.1 ((txts y.1).map sv) ∧ Own w' 114 3 y.2.2 (mrgs y.1).length (mcs (mrgs y.1)) ∧ (∀ g, y.2.1.ownBlock = some g → w7.heap.size ≤ g) ∧ (∀ g, y.2.2.ownBlock = some g → w7.heap.size ≤ g) ∧ (∀ g, y.2.1.ownBlock = some g → y.2.2.ownBlock ≠ some g) ∧ Fr (fun z => z = b) w7 w') (fun y => n - y.1) (0, nilS, nilS)
      ⟨rfl, rfl, rfl, rfl, rfl, rfl, rfl, rfl, rfl, trivial⟩ ⟨Nat.zero_le _, hM7, Own.nil _ _ _, Own.nil _ _ _, (fun g hg => by cases hg), (fun g hg => by cases hg), (fun g hg => by cases hg), Fr.refl _ _⟩ ?_
    rintro ⟨i, tv, mv⟩ w8 ⟨hi, hM, hTx, hMg, htv, hmv, htm, hF⟩
    simp only at hi hM hTx hMg htv hmv htm
    have hml := mrgs_len i
    refine sC [] rfl ?_; refine sD [] rfl ?_
    refine ev_condD rfl (fun hc => ?_) (fun hc => ?_)
    · have hi : i < n := by omega
      refine sA [2] rfl ?_
      refine ev_join1 (α := Value) (fun y => [(1, i64 seed), (2, .pointer (some ⟨p2, 0, none⟩)), (4, .pointer (some ⟨p4, 0, none⟩)), (7, i64 d), (8, i64 h), (9, .pointer (some ⟨x, 0, none⟩)), (10, .pointer (some ⟨b, 0, none⟩)), (12, sv (txtF i)), (36, i64 n), (37, i64 i)])
        (fun y w' => Blk w' b (smC n c d k l h tv y nilS nilS nilS nilS nilS (.slice (some ⟨q, 0, none⟩) d d) nilS (4 + levQ d)) 51 ∧ Own w' 9 1 tv i ((txts i).map sv) ∧ Own w' 114 3 y (mrgs (i + 1)).length (mcs (mrgs (i + 1))) ∧ (∀ g, y.ownBlock = some g → w7.heap.size ≤ g) ∧ (∀ g, tv.ownBlock = some g → y.ownBlock ≠ some g) ∧ Fr (fun z => z = b) w7 w') ?_ ?_
      · have hno : ¬ (256 ≤ i ∧ i ≤ 510) → mrgs (i + 1) = mrgs i := fun z => by show mrgs i ++ _ = _; rw [if_neg z, List.append_nil]
        refine sC [] rfl ?_; refine sD [] rfl ?_; refine sD [] rfl ?_; refine sD [] rfl ?_
        refine ev_condD rfl (fun c256 => ?_) (fun c256 => ?_)
        · have c256 : 256 ≤ i := by omega
          have htx : txtF i = [97, UInt8.ofNat ((97 + i - 256) % 256)] := by unfold txtF; rw [if_neg (by omega), if_neg (by omega)]
          refine sA [] rfl ?_; refine ev_arith rfl rfl rfl rfl rfl (by simp only [lowK, hiK]; omega) ?_; refine ev_arith rfl rfl rfl rfl rfl (by simp only [lowK, hiK]; omega) ?_
          refine ev_convW rfl rfl tabOk rfl rfl rfl ?_
          rw [u8_v (show 0 ≤ 97 + (i : Int) - 256 by omega), show (97 + (i : Int) - 256).toNat = 97 + i - 256 by omega]
          refine ev_buildSlice tabOk rfl rfl rfl inf5 rfl rfl rfl (by simp [Value.cells]) rfl (fun g w9 hg9 hb9 hf9 => ?_)
          refine ev_strOf (bs := txtF i) rfl rfl tabOk (by rw [htx]; rfl) rfl rfl rfl (by rw [htx]; exact Cs.of_blk hb9) ?_
          have hM9 := hM.fr0 hf9
          have hTx9 := hTx.fr0 hf9
          have hMg9 := hMg.fr0 hf9
          have hF9 := hF.tr hf9
          clear hM hTx hMg hb9 hf9
          refine sC [] rfl ?_; refine sD [] rfl ?_; refine sD [] rfl ?_; refine sD [] rfl ?_
          refine ev_condD rfl (fun c510 => ?_) (fun c510 => ?_)
          · have c510 : i ≤ 510 := by omega
            have hme : mrgs (i + 1) = mrgs i ++ [(1, (i : Int) - 255, (i : Int))] := by show mrgs i ++ _ = _; rw [if_pos ⟨c256, c510⟩]
            refine sA [] rfl ?_; refine ev_loadB rfl rfl tabOk rfl rfl ‹_› (by rfl) ?_; refine sA [] rfl ?_; refine ev_arith rfl rfl rfl rfl rfl (by simp only [lowK, hiK]; omega) ?_; refine sA [] rfl ?_
            refine ev_build rfl rfl (v := mrgV (1, (i : Int) - 255, (i : Int))) rfl (fun w => by kernel_rfl) ?_
            refine ev_append1 (z := .agg #[i64 0, i64 0, i64 0]) tabOk rfl rfl (fun _ => rfl) rfl rfl inf114 rfl (by omega) (fun _ => rfl) rfl rfl (by simp [Value.cells]) (by simp [flatV, Value.cells, Value.oneCell']) rfl hMg9 (by omega) (fun u wa ga hOa hfa hna => ?_)
            have hOa : Own wa 114 3 u (mrgs (i + 1)).length (mcs (mrgs (i + 1))) := by
              rw [hme, List.length_append]; unfold mcs; rw [List.flatMap_append]; exact hOa
            have hmb : mv.ownBlock ≠ some b := fun e => by have := hmv _ e; omega
            have hMa := hM9.fr hfa hmb
            have hTa := hTx9.fr hfa (fun g hg e => htm g hg e)
            have hFa := hF9.trans hfa fun z hz e => by have := hmv z e; omega
            have hu : ∀ g, u.ownBlock = some g → w7.heap.size ≤ g := fun g hg => by
              rcases hna g hg with z | z
              · exact hmv g z
              · exact Nat.le_trans hF9.size z
            have htu : ∀ g, tv.ownBlock = some g → u.ownBlock ≠ some g := fun g hg e => by
              rcases hna g e with z | z
              · exact htm g hg z
              · have := hTx9.lt hg; omega
            clear hM9 hTx9 hMg9 hF9 hfa hna
            refine sA [] rfl ?_
            refine ev_store tabOk rfl rfl rfl rfl rfl (own1 hOa) hMa rfl (fun wb hMb hfb => ?_)
            have hub : u.ownBlock ≠ some b := fun e => by have := hu _ e; omega
            have htb : tv.ownBlock ≠ some b := fun e => by have := htv _ e; omega
            refine sA [] rfl ?_
            exact ev_out u ⟨hMb, hTa.fr hfb (fun g hg e => htb (by rw [hg]; exact congrArg some e)), hOa.fr hfb (fun g hg e => hub (by rw [hg]; exact congrArg some e)), hu, htu, hFa.trans hfb fun _ _ z => z⟩ ⟨rfl, rfl, rfl, rfl, rfl, rfl, rfl, rfl, rfl, rfl, trivial⟩
          · refine sA [] rfl ?_
            exact ev_out mv ⟨hM9, hTx9, by rw [hno (by omega)]; exact hMg9, hmv, htm, hF9⟩ ⟨rfl, rfl, rfl, rfl, rfl, rfl, rfl, rfl, rfl, rfl, trivial⟩
        · have c256 : ¬ 256 ≤ i := by omega
          refine sC [] rfl ?_; refine sD [] rfl ?_; refine sD [] rfl ?_
          refine ev_condD rfl (fun c0 => ?_) (fun c0 => ?_)
          · have c0 : 0 < i := by omega
            have htx : txtF i = [UInt8.ofNat ((96 + i) % 256)] := by unfold txtF; rw [if_neg (by omega), if_pos (by omega)]
            refine sA [] rfl ?_; refine ev_arith rfl rfl rfl rfl rfl (by simp only [lowK, hiK]; omega) ?_
            refine ev_convW rfl rfl tabOk rfl rfl rfl ?_
            rw [u8_v (show 0 ≤ 96 + (i : Int) by omega), show (96 + (i : Int)).toNat = 96 + i by omega]
            refine ev_buildSlice tabOk rfl rfl rfl inf5 rfl rfl rfl (by simp [Value.cells]) rfl (fun g w9 hg9 hb9 hf9 => ?_)
            refine ev_strOf (bs := txtF i) rfl rfl tabOk (by rw [htx]; rfl) rfl rfl rfl (by rw [htx]; exact Cs.of_blk hb9) ?_
            refine sA [] rfl ?_
            exact ev_out mv ⟨hM.fr0 hf9, hTx.fr0 hf9, by rw [hno (by omega)]; exact hMg.fr0 hf9, hmv, htm, hF.tr hf9⟩ ⟨rfl, rfl, rfl, rfl, rfl, rfl, rfl, rfl, rfl, rfl, trivial⟩
          · have htx : txtF i = [] := by unfold txtF; rw [if_pos (by omega)]
            refine sA [] rfl ?_
            exact ev_out mv ⟨hM, hTx, by rw [hno (by omega)]; exact hMg, hmv, htm, hF⟩ ⟨rfl, rfl, rfl, rfl, rfl, rfl, rfl, by rw [htx]; rfl, rfl, rfl, trivial⟩
      · clear hM hTx hMg hmv htm hF
        rintro mv w9 ⟨hM, hTx, hMg, hmv, htm, hF⟩
        refine sA [] rfl ?_; refine ev_loadB rfl rfl tabOk rfl rfl ‹_› (by rfl) ?_; refine sA [] rfl ?_
        refine ev_append1 tabOk rfl rfl (fun _ => rfl) rfl rfl inf9 rfl (by omega) (fun _ => rfl) rfl rfl (by simp [Value.cells]) (by simp [flatV, Value.cells, Value.oneCell']) rfl hTx (by omega) (fun u wa ga hOa hfa hna => ?_)
        have hOa : Own wa 9 1 u (i + 1) ((txts (i + 1)).map sv) := by rw [txts_succ, List.map_append]; exact hOa
        have hmb : tv.ownBlock ≠ some b := fun e => by have := htv _ e; omega
        have hMa := hM.fr hfa hmb
        have hGa := hMg.fr hfa (fun g hg e => htm g e hg)
        have hFa := hF.trans hfa fun z hz e => by have := htv z e; omega
        have hu : ∀ g, u.ownBlock = some g → w7.heap.size ≤ g := fun g hg => by
          rcases hna g hg with z | z
          · exact htv g z
          · exact Nat.le_trans hF.size z
        have htu : ∀ g, u.ownBlock = some g → mv.ownBlock ≠ some g := fun g hg e => by
          rcases hna g hg with z | z
          · exact htm g z e
          · have := hMg.lt e; omega
        clear hM hTx hMg hF hfa hna
        refine sA [] rfl ?_
        refine ev_store tabOk rfl rfl rfl rfl rfl (own1 hOa) hMa rfl (fun wb hMb hfb => ?_)
        have hub : u.ownBlock ≠ some b := fun e => by have := hu _ e; omega
        have hvb : mv.ownBlock ≠ some b := fun e => by have := hmv _ e; omega
        refine sA [] rfl ?_; refine ev_arith rfl rfl rfl rfl rfl (by simp only [lowK, hiK]; omega) ?_; refine sA [] rfl ?_
        exact ev_next (i + 1, u, mv) (by simp only; omega) ⟨hi, hMb, hOa.fr hfb (fun g hg e => hub (by rw [hg]; exact congrArg some e)), hGa.fr hfb (fun g hg e => hvb (by rw [hg]; exact congrArg some e)), hu, hmv, htu, hFa.trans hfb fun _ _ z => z⟩ ⟨rfl, rfl, rfl, rfl, rfl, rfl, rfl, rfl, by rw [show ((i + 1 : Nat) : Int) = (i : Int) + 1 by omega]; rfl, trivial⟩
    · obtain rfl : n = i := by omega
      have hB8 := hB7.fr hF (fun e => by have : p2 = b := e; omega)
      have hD8 := hD7.fr hF (fun e => by have : p4 = b := e; omega)
      have hX8 : Mk w8 x (seed64 seed) := hX7.fr hF (fun e => by have : x = b := e; omega)
      have hR8 : R8 w8 q (gainF d) := hR7.fr hF hqb
      refine sA [] rfl ?_
      have hs67 := hf7.size
      have hs78 := hF.size
      have hs06 := hF6.size
      have hs46 : w4.heap.size ≤ w6.heap.size := by omega
      have hR7l := hR7.lt
      obtain ⟨Φ, hΦ0⟩ : ∃ Φ : World → Prop, Φ = fun w => Blk w p2 (shpC ⟨n, c, d, k, l, h⟩) 23 ∧ Blk w p4 (lmC zM) 51 ∧ Own w 9 1 tv n ((txts n).map sv) ∧ Own w 114 3 mv (mrgs n).length (mcs (mrgs n)) := ⟨_, rfl⟩
      obtain ⟨O, hO0⟩ : ∃ O : Nat → Prop, O = fun z => z = p2 ∨ z = p4 ∨ tv.ownBlock = some z ∨ mv.ownBlock = some z := ⟨_, rfl⟩
      have hΦf : ∀ {S : Nat → Prop} {u u' : World}, Φ u → Fr S u u' → (∀ z, O z → ¬ S z) → Φ u' := fun {S} {u} {u'} h hf hn => by
        subst hΦ0; subst hO0
        exact ⟨h.1.fr hf (hn _ (.inl rfl)), h.2.1.fr hf (hn _ (.inr (.inl rfl))), h.2.2.1.fr hf (fun g hg => hn g (.inr (.inr (.inl hg)))), h.2.2.2.fr hf (fun g hg => hn g (.inr (.inr (.inr hg))))⟩
      have hΦ2 : ∀ {u : World}, Φ u → Blk u p2 (shpC ⟨n, c, d, k, l, h⟩) 23 := fun h => by subst hΦ0; exact h.1
      have hΦ8 : Φ w8 := by subst hΦ0; exact ⟨hB8, hD8, hTx, hMg⟩
      have hS8 : SP 51 w w8 b x (smC n c d k l h tv mv nilS nilS nilS nilS nilS (.slice (some ⟨q, 0, none⟩) d d) nilS (4 + levQ d)) (seed64 seed) [rowB q (gainF d)] O := by
        have hgl : (gainF d).length = d := by simp [gainF]
        refine ⟨hM, hX8, fun r hr => ?_, by simp, hF7.trans hF fun z hz e => by have : z = b := e; omega, by omega, by omega, by omega, fun z hz => ?_⟩
        · obtain rfl : r = rowB q (gainF d) := by simpa using hr
          refine ⟨OR.of hR8 (by omega) (by omega), fun e => ?_, fun e => ?_, fun g hg e => ?_⟩
          · have e : some q = some b := e
            exact hqb (by injection e)
          · have e : some q = some x := e
            have : q = x := by injection e
            omega
          · have hg : some q = some g := hg
            have : q = g := by injection hg
            subst this
            subst hO0
            rcases e with e | e | e | e
            · omega
            · omega
            · have := htv _ e; omega
            · have := hmv _ e; omega
        · subst hO0
          rcases hz with e | e | e | e
          · omega
          · omega
          · have := htv _ e; have := hTx.lt e; omega
          · have := hmv _ e; have := hMg.lt e; omega
      have hOp2 : O p2 := by subst hO0; exact .inl rfl
      clear hB8 hD8 hTx hMg hM hX8 hR8 hF hR7 hM7 hB7 hD7 hX7 hX6 hf7 hB1
      refine ev_join1 (α := Rw × Rw) (fun y => [(1, i64 seed), (2, .pointer (some ⟨p2, 0, none⟩)), (4, .pointer (some ⟨p4, 0, none⟩)), (7, i64 d), (8, i64 h), (9, .pointer (some ⟨x, 0, none⟩)), (10, .pointer (some ⟨b, 0, none⟩))]) (fun y w' => SP 51 w w' b x (smC n c d k l h tv mv nilS y.1.v y.2.v nilS nilS (.slice (some ⟨q, 0, none⟩) d d) nilS (4 + levQ d)) (seed64 seed) ([rowB q (gainF d)] ++ [y.1, y.2]) O ∧ y.1.xs = cosF c hh ∧ y.2.xs = sinF c hh ∧ Φ w') ?_ ?_
      · refine mixC_in (fun w' => Fr (fun z => z = b) w8 w') mixed (fun w9 hf9 => ?_)
        have hp2b : p2 ≠ b := (hS8.oth p2 hOp2).2.1
        have hf9' : Fr (fun z => z = b) w8 w9 := hf9.mono fun _ _ z => z.elim
        refine mA rfl (by kernel_rfl) (by kernel_rfl) ?_
        refine m_load 1 rfl rfl rfl (by kernel_rfl) (by kernel_rfl) rfl rfl tabOk rfl rfl (fun w' hw' => ((hΦ2 hΦ8).fr hw' hp2b).cell rfl) ?_
        refine m_loadAgg (xs := shpC ⟨n, c, d, k, l, h⟩) 2 rfl rfl rfl (by kernel_rfl) (by kernel_rfl) rfl rfl tabOk rfl rfl rfl (fun w' hw' => Cs.of_blk ((hΦ2 hΦ8).fr hw' hp2b)) ?_
        refine mix1 rfl rfl ?_ hf9'
        refine ev_call rfl rfl rfl (wHalf ⟨n, c, d, k, l, h⟩ _) (fun r wa hr => ?_)
        obtain ⟨rfl, hfa⟩ := hr
        rw [hhh]
        have hfa := hf9.tr hfa
        refine mix_op ?_
        refine mix1 rfl rfl ?_ (hfa.mono fun _ _ z => z.elim)
        refine ev_call rfl rfl rfl (wRopeTable c hh _ (by omega) (by omega) (hT.fr0 (hS8.fr.tr hfa))) (fun r wb hr => ?_)
        obtain ⟨v, u, rfl, hT8⟩ := hr
        have hfb := hfa.tr hT8.1.2.2
        refine mix_op ?_
        refine mA rfl (by kernel_rfl) (by kernel_rfl) ?_
        obtain ⟨r1, rfl, hx1, ho1, hg1⟩ := OR.ofN hT8.1 (w0 := w) (by have := hS8.fr.size; have := hfa.size; omega)
        obtain ⟨r2, rfl, hx2, ho2, hg2⟩ := OR.ofN hT8.2.1 (w0 := w) (by have := hS8.fr.size; have := hfa.size; omega)
        have hSb := hS8.adds (Q := [r1, r2]) (fun r hr => by
          rcases List.mem_cons.1 hr with rfl | hr
          · exact ⟨ho1, fun g hg => Nat.le_trans hfa.size (hg1 g hg)⟩
          · obtain rfl : r = r2 := by simpa using hr
            exact ⟨ho2, fun g hg => Nat.le_trans hfa.size (hg2 g hg)⟩) (by simpa using hT8.2.2) hfb
        have hΦb := hΦf hΦ8 hfb (fun _ _ => id)
        have hfb' : Fr (fun z => z = b) w8 wb := hfb.mono fun _ _ z => z.elim
        have hOb : ∀ z, O z → ¬ z = b := fun z hz => (hSb.oth z hz).2.1
        clear hS8 hΦ8
        refine mix1 rfl rfl ?_ hfb'
        refine ev_store tabOk rfl rfl rfl rfl rfl (own1 ho1.1) hSb.blk rfl (fun wc hMc hfc => ?_)
        refine mix_op ?_
        refine mA rfl (by kernel_rfl) (by kernel_rfl) ?_
        refine mix1 rfl rfl ?_ (hfb'.trans hfc fun _ _ z => z)
        refine ev_store tabOk rfl rfl rfl rfl rfl (own1 ho2.1) hMc rfl (fun wd hMd hfd => ?_)
        refine mix_op ?_
        refine mix_out rfl ?_ ((hfb'.trans hfc fun _ _ z => z).trans hfd fun _ _ z => z)
        skip
        exact ev_out (r1, r2) ⟨(hSb.set hMc hfc).set hMd hfd, hx1, hx2, hΦf (hΦf hΦb hfc hOb) hfd hOb⟩ ⟨rfl, rfl, rfl, rfl, rfl, rfl, rfl, trivial⟩
      clear hS8 hΦ8
      rintro ⟨r1, r2⟩ w9 ⟨hS9, hx1, hx2, hΦ9⟩
      simp only at hS9 hx1 hx2
      refine sA [] rfl ?_
      have hOb : ∀ z, O z → ¬ z = b := fun z hz => (hS9.oth z hz).2.1
      have hOx : ∀ z, O z → ¬ z = x := fun z hz => (hS9.oth z hz).2.2
      refine ev_call rfl rfl rfl (wActTable _) (fun r wa hr => ?_)
      obtain ⟨v, rfl, hN⟩ := hr
      obtain ⟨r3, rfl, hx3, ho3, hg3⟩ := OR.ofN hN (w0 := w) hS9.fr.size
      have hSa := hS9.adds (Q := [r3]) (fun r hr => by
        obtain rfl : r = r3 := by simpa using hr
        exact ⟨ho3, hg3⟩) (by simp) hN.2.2
      have hΦa := hΦf hΦ9 hN.2.2 (fun _ _ => id)
      clear hS9 hΦ9
      refine sA [] rfl ?_
      refine ev_store tabOk rfl rfl rfl rfl rfl (own1 ho3.1) hSa.blk rfl (fun wb hMb hfb => ?_)
      have hSb := hSa.set hMb hfb
      have hΦb := hΦf hΦa hfb hOb
      clear hSa hΦa hMb hfb
      have hBb := hΦ2 hΦb
      have m1 : 0 ≤ (n : Int) * d ∧ (n : Int) * d ≤ 512 * 64 := mul_bd (by omega) (by omega) (by omega) (by omega)
      refine sA [] rfl ?_; refine ev_loadB rfl rfl tabOk rfl rfl ‹_› (by rfl) ?_; refine sA [] rfl ?_; refine ev_arith rfl rfl rfl rfl rfl (by simp only [lowK, hiK]; omega) ?_
      rw [show (n : Int) * d = ((n * d : Nat) : Int) by rw [Int.natCast_mul]]
      refine ev_call rfl rfl rfl (wRow x (seed64 seed) (n * d) _ hSb.mkr (seed64_lt seed) (by omega)) (fun r wc hr => ?_)
      obtain ⟨q4, rfl, hR4, hq4, hXc, hfc⟩ := hr
      have hSc := hSb.row hR4 hq4 hXc hfc (by rw [rowQ_len]; omega)
      have hΦc := hΦf hΦb hfc hOx
      clear hSb hΦb hBb hR4 hXc hfc
      refine sA [] rfl ?_
      refine ev_store tabOk rfl rfl rfl rfl rfl rfl hSc.blk rfl (fun wd hMd hfd => ?_)
      have hSd : SP 51 w wd b x (smC n c d k l h tv mv (.slice (some ⟨q4, 0, none⟩) (n * d) (n * d)) r1.v r2.v nilS r3.v (.slice (some ⟨q, 0, none⟩) d d) nilS (4 + levQ d)) (lcgN (n * d) (seed64 seed)) ([rowB q (gainF d)] ++ [r1, r2] ++ [r3] ++ [rowB q4 (rowQ (n * d) (seed64 seed))]) O := hSc.set hMd hfd
      have hΦd := hΦf hΦc hfd hOb
      clear hSc hΦc hMd hfd
      have hlv := levQ_le d
      refine sA [] rfl ?_
      refine ev_call rfl rfl rfl (wLevel d _ (by omega)) (fun r we hr => ?_)
      obtain ⟨rfl, rfl⟩ := hr
      refine ev_arith rfl rfl rfl rfl rfl (by simp only [lowK, hiK]; omega) ?_; refine sA [] rfl ?_
      refine ev_call rfl rfl rfl (wLevel d _ (by omega)) (fun r we hr => ?_)
      obtain ⟨rfl, rfl⟩ := hr
      have hBe := hΦ2 hΦd
      refine ev_arith rfl rfl rfl rfl rfl (by simp only [lowK, hiK]; omega) ?_; refine sA [] rfl ?_; refine ev_loadB rfl rfl tabOk rfl rfl ‹_› (by rfl) ?_; refine sA [] rfl ?_
      obtain ⟨st1, hst1⟩ : ∃ s, s = lcgN (n * d) (seed64 seed) := ⟨_, rfl⟩
      have hst1l : st1 < 18446744073709551616 := by rw [hst1]; exact lcgN_lt (seed64_lt seed) _
      rw [← hst1] at hSd
      have hOl : ∀ z, O z → z < we.heap.size := fun z hz => (hSd.oth z hz).1
      have hwe := hSd.fr.size
      refine ev_loop (α := Nat × Value × List (Bk Rw)) (fun y => [(1, i64 seed), (2, .pointer (some ⟨p2, 0, none⟩)), (4, .pointer (some ⟨p4, 0, none⟩)), (7, i64 d), (8, i64 h), (9, .pointer (some ⟨x, 0, none⟩)), (10, .pointer (some ⟨b, 0, none⟩)), (13, i64 (7 + levQ d)), (14, i64 (4 + levQ d)), (108, i64 l), (109, i64 y.1)])
        (fun y w' => y.1 ≤ l ∧ y.2.2.length = y.1 ∧ SP 51 w w' b x (smC n c d k l h tv mv (.slice (some ⟨q4, 0, none⟩) (n * d) (n * d)) r1.v r2.v y.2.1 r3.v (.slice (some ⟨q, 0, none⟩) d d) nilS (4 + levQ d)) (layS d h y.1 st1) (([rowB q (gainF d)] ++ [r1, r2] ++ [r3] ++ [rowB q4 (rowQ (n * d) (seed64 seed))]) ++ y.2.2.flatMap Bk.rows) (fun z => O z ∨ y.2.1.ownBlock = some z) ∧ Φ w' ∧ Own w' 60 17 y.2.1 y.1 (y.2.2.flatMap bkC) ∧ y.2.2.map pBk = layF d h y.1 st1 ∧ (∀ g, y.2.1.ownBlock = some g → we.heap.size ≤ g) ∧ we.heap.size ≤ w'.heap.size) (fun y => l - y.1) (0, nilS, [])
        ⟨rfl, rfl, rfl, rfl, rfl, rfl, rfl, rfl, rfl, rfl, rfl, trivial⟩ ⟨Nat.zero_le _, rfl, by
          have hz := hSd.more (w' := we) (O' := fun z => O z ∨ nilS.ownBlock = some z) (fun z hz => hz.elim .inl fun e => by cases e) (Fr.refl _ _)
          exact hz.nil, hΦd, Own.nil _ _ _, rfl, (fun g hg => by cases hg), Nat.le_refl _⟩ ?_
      clear hSd hΦd hBe
      rintro ⟨j, bv, bs⟩ u1 ⟨hj, hbl, hS, hΦ, hBk, hpb, hbv, hsz⟩
      simp only at hj hbl hS hΦ hBk hpb hbv
      refine sC [] rfl ?_; refine sD [] rfl ?_
      refine ev_condD rfl (fun hc2 => ?_) (fun hc2 => ?_)
      · refine sA [] rfl ?_
        have hs0 := layS_lt (d := d) (h := h) hst1l j
        obtain ⟨s0, hs00⟩ : ∃ s, s = layS d h j st1 := ⟨_, rfl⟩
        rw [← hs00] at hs0 hS
        have md : 0 ≤ (d : Int) * d ∧ (d : Int) * d ≤ 64 * 64 := mul_bd (by omega) (by omega) (by omega) (by omega)
        have mh : 0 ≤ (h : Int) * d ∧ (h : Int) * d ≤ 256 * 64 := mul_bd (by omega) (by omega) (by omega) (by omega)
        have mh' : 0 ≤ (d : Int) * h ∧ (d : Int) * h ≤ 64 * 256 := mul_bd (by omega) (by omega) (by omega) (by omega)
        have ed : (d : Int) * d = ((d * d : Nat) : Int) := (Int.natCast_mul d d).symm
        have eh : (h : Int) * d = ((h * d : Nat) : Int) := (Int.natCast_mul h d).symm
        have eh' : (d : Int) * h = ((d * h : Nat) : Int) := (Int.natCast_mul d h).symm
        refine ev_call rfl rfl rfl (wGains d _ (by omega)) (fun r ug1 hr => ?_)
        obtain ⟨g1, rfl, hG, hq, hf⟩ := hr
        have hS := hS.addB hG hq hf (by rw [gain_len]; omega)
        have hΦ := hΦf hΦ hf (fun _ _ => id)
        have hBk := hBk.fr0 hf
        have hsz := Nat.le_trans hsz hf.size
        clear hG hq hf
        refine sA [] rfl ?_
        refine ev_call rfl rfl rfl (wGains d _ (by omega)) (fun r ug2 hr => ?_)
        obtain ⟨g2, rfl, hG, hq, hf⟩ := hr
        have hS := hS.addB hG hq hf (by rw [gain_len]; omega)
        have hΦ := hΦf hΦ hf (fun _ _ => id)
        have hBk := hBk.fr0 hf
        have hsz := Nat.le_trans hsz hf.size
        clear hG hq hf
        refine sA [] rfl ?_
        refine ev_build rfl rfl (v := .agg ⟨bkX d (slB g1 d) nilS nilS nilS nilS (slB g2 d) nilS nilS nilS 0 0 0⟩) rfl (fun w => by kernel_rfl) ?_
        refine ev_alloc rfl rfl inf60 (fun p u4 hp hP hf => ?_)
        have hbp : ∀ g, bv.ownBlock = some g → g < p := fun g hg => by have := hBk.lt hg; omega
        have hOp : ∀ z, O z → ¬ z = p := fun z hz e => by have := hOl z hz; omega
        have hPl := hP.lt
        have hS := hS.more (w' := u4) (O' := fun z => (O z ∨ bv.ownBlock = some z) ∨ z = p) (fun z hz => hz.elim .inl fun e => .inr (by subst e; exact ⟨hPl, hp⟩)) hf
        have hΦ := hΦf hΦ hf (fun _ _ => id)
        have hBk := hBk.fr0 hf
        have hsz := Nat.le_trans hsz hf.size
        clear hf
        have hwp : w.heap.size ≤ p := by omega
        have hpx : ¬ p = x := (hS.oth p (.inr rfl)).2.2
        have hbx : ∀ g, bv.ownBlock = some g → ¬ g = x := fun g hg => (hS.oth g (.inl (.inr hg))).2.2
        have hbb : ∀ g, bv.ownBlock = some g → ¬ g = b := fun g hg => (hS.oth g (.inl (.inr hg))).2.1
        refine ev_storeAgg tabOk rfl rfl rfl rfl rfl rfl hP rfl (fun u5 hP hf => ?_)
        have hS := hS.other (.inr rfl) hwp hf
        have hΦ := hΦf hΦ hf hOp
        have hBk := hBk.fr hf (fun g hg e => by have := hbp g hg; have : g = p := e; omega)
        have hsz := Nat.le_trans hsz hf.size
        clear hf
        refine sA [] rfl ?_; refine ev_arith rfl rfl rfl rfl rfl (by simp only [lowK, hiK]; omega) ?_
        rw [ed]
        refine ev_call rfl rfl rfl (wRow x s0 (d * d) _ hS.mkr hs0 (by omega)) (fun r vq1 hr => ?_)
        obtain ⟨q1, rfl, hR, hq, hX, hf⟩ := hr
        have hS := hS.row hR hq hX hf (by rw [rowQ_len]; omega)
        have hΦ := hΦf hΦ hf hOx
        have hBk := hBk.fr hf hbx
        have hP := hP.fr hf hpx
        have hsz := Nat.le_trans hsz hf.size
        clear hR hq hX hf
        refine sA [] rfl ?_; refine ev_arith rfl rfl rfl rfl rfl (by simp only [lowK, hiK]; omega) ?_
        rw [ed]
        refine ev_call rfl rfl rfl (wRow x (lcgN (d * d) s0) (d * d) _ hS.mkr (lcgN_lt hs0 _) (by omega)) (fun r vq2 hr => ?_)
        obtain ⟨q2, rfl, hR, hq, hX, hf⟩ := hr
        have hS := hS.row hR hq hX hf (by rw [rowQ_len]; omega)
        have hΦ := hΦf hΦ hf hOx
        have hBk := hBk.fr hf hbx
        have hP := hP.fr hf hpx
        have hsz := Nat.le_trans hsz hf.size
        clear hR hq hX hf
        refine sA [] rfl ?_; refine ev_arith rfl rfl rfl rfl rfl (by simp only [lowK, hiK]; omega) ?_
        rw [ed]
        refine ev_call rfl rfl rfl (wRow x (lcgN (d * d) (lcgN (d * d) s0)) (d * d) _ hS.mkr (lcgN_lt (lcgN_lt hs0 _) _) (by omega)) (fun r vq3 hr => ?_)
        obtain ⟨q3, rfl, hR, hq, hX, hf⟩ := hr
        have hS := hS.row hR hq hX hf (by rw [rowQ_len]; omega)
        have hΦ := hΦf hΦ hf hOx
        have hBk := hBk.fr hf hbx
        have hP := hP.fr hf hpx
        have hsz := Nat.le_trans hsz hf.size
        clear hR hq hX hf
        refine sA [] rfl ?_; refine ev_arith rfl rfl rfl rfl rfl (by simp only [lowK, hiK]; omega) ?_
        rw [ed]
        refine ev_call rfl rfl rfl (wRow x (lcgN (d * d) (lcgN (d * d) (lcgN (d * d) s0))) (d * d) _ hS.mkr (lcgN_lt (lcgN_lt (lcgN_lt hs0 _) _) _) (by omega)) (fun r vq4b hr => ?_)
        obtain ⟨q4b, rfl, hR, hq, hX, hf⟩ := hr
        have hS := hS.row hR hq hX hf (by rw [rowQ_len]; omega)
        have hΦ := hΦf hΦ hf hOx
        have hBk := hBk.fr hf hbx
        have hP := hP.fr hf hpx
        have hsz := Nat.le_trans hsz hf.size
        clear hR hq hX hf
        refine sA [] rfl ?_
        refine ev_store tabOk rfl rfl rfl rfl rfl rfl hP rfl (fun u6 hP hf => ?_)
        have hS := hS.other (.inr rfl) hwp hf
        have hΦ := hΦf hΦ hf hOp
        have hBk := hBk.fr hf (fun g hg e => by have := hbp g hg; have : g = p := e; omega)
        have hsz := Nat.le_trans hsz hf.size
        clear hf
        refine sA [] rfl ?_
        refine ev_store tabOk rfl rfl rfl rfl rfl rfl hP rfl (fun u7 hP hf => ?_)
        have hS := hS.other (.inr rfl) hwp hf
        have hΦ := hΦf hΦ hf hOp
        have hBk := hBk.fr hf (fun g hg e => by have := hbp g hg; have : g = p := e; omega)
        have hsz := Nat.le_trans hsz hf.size
        clear hf
        refine sA [] rfl ?_
        refine ev_store tabOk rfl rfl rfl rfl rfl rfl hP rfl (fun u8 hP hf => ?_)
        have hS := hS.other (.inr rfl) hwp hf
        have hΦ := hΦf hΦ hf hOp
        have hBk := hBk.fr hf (fun g hg e => by have := hbp g hg; have : g = p := e; omega)
        have hsz := Nat.le_trans hsz hf.size
        clear hf
        refine sA [] rfl ?_
        refine ev_store tabOk rfl rfl rfl rfl rfl rfl hP rfl (fun u9 hP hf => ?_)
        have hS := hS.other (.inr rfl) hwp hf
        have hΦ := hΦf hΦ hf hOp
        have hBk := hBk.fr hf (fun g hg e => by have := hbp g hg; have : g = p := e; omega)
        have hsz := Nat.le_trans hsz hf.size
        clear hf
        refine sA [] rfl ?_
        refine ev_call rfl rfl rfl (wLevel h _ (by omega)) (fun r ul hr => ?_)
        obtain ⟨rfl, rfl⟩ := hr
        have hlh := levQ_le h
        refine ev_arith rfl rfl rfl rfl rfl (by simp only [lowK, hiK]; omega) ?_
        refine ev_build rfl rfl (v := .agg ⟨[nilS, nilS, nilS, i64 (7 + levQ d), i64 (7 + levQ d), i64 (4 + levQ h)]⟩) rfl (fun w => by kernel_rfl) ?_
        refine sA [] rfl ?_
        refine ev_storePart tabOk rfl rfl rfl rfl rfl rfl hP (Nat.le_refl 17) (fun ua hP hf => ?_)
        have hP : Blk ua p (bkX d (slB g1 d) (slB q1 (d * d)) (slB q2 (d * d)) (slB q3 (d * d)) (slB q4b (d * d)) (slB g2 d) nilS nilS nilS (7 + levQ d) (7 + levQ d) (4 + levQ h)) _ := hP
        have hS := hS.other (.inr rfl) hwp hf
        have hΦ := hΦf hΦ hf hOp
        have hBk := hBk.fr hf (fun g hg e => by have := hbp g hg; have : g = p := e; omega)
        have hsz := Nat.le_trans hsz hf.size
        clear hf
        refine sA [] rfl ?_; refine ev_arith rfl rfl rfl rfl rfl (by simp only [lowK, hiK]; omega) ?_
        rw [eh]
        refine ev_call rfl rfl rfl (wRow x (lcgN (d * d) (lcgN (d * d) (lcgN (d * d) (lcgN (d * d) s0)))) (h * d) _ hS.mkr (lcgN_lt (lcgN_lt (lcgN_lt (lcgN_lt hs0 _) _) _) _) (by omega)) (fun r vq5 hr => ?_)
        obtain ⟨q5, rfl, hR, hq, hX, hf⟩ := hr
        have hS := hS.row hR hq hX hf (by rw [rowQ_len]; omega)
        have hΦ := hΦf hΦ hf hOx
        have hBk := hBk.fr hf hbx
        have hP := hP.fr hf hpx
        have hsz := Nat.le_trans hsz hf.size
        clear hR hq hX hf
        refine sA [] rfl ?_; refine ev_arith rfl rfl rfl rfl rfl (by simp only [lowK, hiK]; omega) ?_
        rw [eh]
        refine ev_call rfl rfl rfl (wRow x (lcgN (h * d) (lcgN (d * d) (lcgN (d * d) (lcgN (d * d) (lcgN (d * d) s0))))) (h * d) _ hS.mkr (lcgN_lt (lcgN_lt (lcgN_lt (lcgN_lt (lcgN_lt hs0 _) _) _) _) _) (by omega)) (fun r vq6 hr => ?_)
        obtain ⟨q6, rfl, hR, hq, hX, hf⟩ := hr
        have hS := hS.row hR hq hX hf (by rw [rowQ_len]; omega)
        have hΦ := hΦf hΦ hf hOx
        have hBk := hBk.fr hf hbx
        have hP := hP.fr hf hpx
        have hsz := Nat.le_trans hsz hf.size
        clear hR hq hX hf
        refine sA [] rfl ?_; refine ev_arith rfl rfl rfl rfl rfl (by simp only [lowK, hiK]; omega) ?_
        rw [eh']
        refine ev_call rfl rfl rfl (wRow x (lcgN (h * d) (lcgN (h * d) (lcgN (d * d) (lcgN (d * d) (lcgN (d * d) (lcgN (d * d) s0)))))) (d * h) _ hS.mkr (lcgN_lt (lcgN_lt (lcgN_lt (lcgN_lt (lcgN_lt (lcgN_lt hs0 _) _) _) _) _) _) (by omega)) (fun r vq7 hr => ?_)
        obtain ⟨q7, rfl, hR, hq, hX, hf⟩ := hr
        have hS := hS.row hR hq hX hf (by rw [rowQ_len]; omega)
        have hΦ := hΦf hΦ hf hOx
        have hBk := hBk.fr hf hbx
        have hP := hP.fr hf hpx
        have hsz := Nat.le_trans hsz hf.size
        clear hR hq hX hf
        refine sA [] rfl ?_
        refine ev_store tabOk rfl rfl rfl rfl rfl rfl hP rfl (fun ub hP hf => ?_)
        have hS := hS.other (.inr rfl) hwp hf
        have hΦ := hΦf hΦ hf hOp
        have hBk := hBk.fr hf (fun g hg e => by have := hbp g hg; have : g = p := e; omega)
        have hsz := Nat.le_trans hsz hf.size
        clear hf
        refine sA [] rfl ?_
        refine ev_store tabOk rfl rfl rfl rfl rfl rfl hP rfl (fun uc hP hf => ?_)
        have hS := hS.other (.inr rfl) hwp hf
        have hΦ := hΦf hΦ hf hOp
        have hBk := hBk.fr hf (fun g hg e => by have := hbp g hg; have : g = p := e; omega)
        have hsz := Nat.le_trans hsz hf.size
        clear hf
        refine sA [] rfl ?_
        refine ev_store tabOk rfl rfl rfl rfl rfl rfl hP rfl (fun ud hP hf => ?_)
        have hS := hS.other (.inr rfl) hwp hf
        have hΦ := hΦf hΦ hf hOp
        have hBk := hBk.fr hf (fun g hg e => by have := hbp g hg; have : g = p := e; omega)
        have hsz := Nat.le_trans hsz hf.size
        clear hf
        refine sA [] rfl ?_
        have hP : Blk ud p (bkX d (slB g1 d) (slB q1 (d * d)) (slB q2 (d * d)) (slB q3 (d * d)) (slB q4b (d * d)) (slB g2 d) (slB q5 (h * d)) (slB q6 (h * d)) (slB q7 (d * h)) (7 + levQ d) (7 + levQ d) (4 + levQ h)) _ := hP
        have hMb := hS.blk
        obtain ⟨B, hB0⟩ : ∃ B : Bk Rw, B = ⟨(rowB g1 (gainF d)), (rowB q1 (rowQ (d * d) s0)), (rowB q2 (rowQ (d * d) (lcgN (d * d) s0))), (rowB q3 (rowQ (d * d) (lcgN (d * d) (lcgN (d * d) s0)))), (rowB q4b (rowQ (d * d) (lcgN (d * d) (lcgN (d * d) (lcgN (d * d) s0))))), (rowB g2 (gainF d)), 7 + levQ d, 7 + levQ d, 7 + levQ d, 4 + levQ d, 3, (rowB q5 (rowQ (h * d) (lcgN (d * d) (lcgN (d * d) (lcgN (d * d) (lcgN (d * d) s0)))))), (rowB q6 (rowQ (h * d) (lcgN (h * d) (lcgN (d * d) (lcgN (d * d) (lcgN (d * d) (lcgN (d * d) s0))))))), (rowB q7 (rowQ (d * h) (lcgN (h * d) (lcgN (h * d) (lcgN (d * d) (lcgN (d * d) (lcgN (d * d) (lcgN (d * d) s0)))))))), 7 + levQ d, 7 + levQ d, 4 + levQ h⟩ := ⟨_, rfl⟩
        have hBc : bkC B = bkX d (slB g1 d) (slB q1 (d * d)) (slB q2 (d * d)) (slB q3 (d * d)) (slB q4b (d * d)) (slB g2 d) (slB q5 (h * d)) (slB q6 (h * d)) (slB q7 (d * h)) (7 + levQ d) (7 + levQ d) (4 + levQ h) := by
          subst hB0; simp only [bkC, bkX, slB, Rw.v, rowQ_len, gain_len]
        have hBp : pBk B = blkF d h s0 := by subst hB0; rfl
        have hBr : B.rows = [rowB g1 (gainF d), rowB g2 (gainF d), rowB q1 (rowQ (d * d) s0), rowB q2 (rowQ (d * d) (lcgN (d * d) s0)), rowB q3 (rowQ (d * d) (lcgN (d * d) (lcgN (d * d) s0))), rowB q4b (rowQ (d * d) (lcgN (d * d) (lcgN (d * d) (lcgN (d * d) s0)))), rowB q5 (rowQ (h * d) (lcgN (d * d) (lcgN (d * d) (lcgN (d * d) (lcgN (d * d) s0))))), rowB q6 (rowQ (h * d) (lcgN (h * d) (lcgN (d * d) (lcgN (d * d) (lcgN (d * d) (lcgN (d * d) s0)))))), rowB q7 (rowQ (d * h) (lcgN (h * d) (lcgN (h * d) (lcgN (d * d) (lcgN (d * d) (lcgN (d * d) (lcgN (d * d) s0)))))))] := by subst hB0; rfl
        clear hB0
        refine ev_loadB rfl rfl tabOk rfl rfl ‹_› (by rfl) ?_; refine ev_loadAggB rfl rfl tabOk rfl rfl ‹_› (by rfl) ?_
        refine ev_append1 tabOk rfl rfl (fun _ => rfl) rfl rfl inf60 rfl (by omega) (fun _ => rfl) rfl rfl (by simp [Value.cells]) (by simp [flatV, Value.cells, Value.oneCell']) rfl hBk (by omega) (fun nv ue ge hO hf hn => ?_)
        have hO : Own ue 60 17 nv (j + 1) ((bs ++ [B]).flatMap bkC) := by
          have e : [B].flatMap bkC = flatV [.agg ⟨bkX d (slB g1 d) (slB q1 (d * d)) (slB q2 (d * d)) (slB q3 (d * d)) (slB q4b (d * d)) (slB g2 d) (slB q5 (h * d)) (slB q6 (h * d)) (slB q7 (d * h)) (7 + levQ d) (7 + levQ d) (4 + levQ h)⟩] := by rw [List.flatMap_cons, hBc]; rfl
          rw [List.flatMap_append, e]; exact hO
        have hS := hS.grow (bv := bv) (bv' := nv) (O' := fun z => O z ∨ nv.ownBlock = some z) (fun g hg => ⟨.inl (.inr hg), by have := hbv g hg; omega⟩) hf hn (fun g hg => hO.lt hg) (fun g hg => hg.elim (fun z => .inl (.inl (.inl z))) .inr)
        have hΦ := hΦf hΦ hf (fun z hz e => by have := hbv z e; have := hOl z hz; omega)
        have hnv : ∀ g, nv.ownBlock = some g → we.heap.size ≤ g := fun g hg => by
          rcases hn g hg with z | z
          · exact hbv g z
          · exact Nat.le_trans hsz z
        have hsz := Nat.le_trans hsz hf.size
        clear hBk hP hMb hf hn
        refine sA [] rfl ?_
        refine ev_store tabOk rfl rfl rfl rfl rfl (own1 hO) hS.blk rfl (fun uf hM hf => ?_)
        have hO := hO.fr hf (fun g hg e => (hS.oth g (.inr hg)).2.1 e)
        have hS : SP 51 w uf b x (smC n c d k l h tv mv (.slice (some ⟨q4, 0, none⟩) (n * d) (n * d)) r1.v r2.v nv r3.v (.slice (some ⟨q, 0, none⟩) d d) nilS (4 + levQ d)) _ _ _ := hS.set hM hf
        have hΦ := hΦf hΦ hf hOb
        have hsz := Nat.le_trans hsz hf.size
        rw [hs00] at hS
        have er : ∀ L : List Rw, L ++ [rowB g1 (gainF d)] ++ [rowB g2 (gainF d)] ++ [rowB q1 (rowQ (d * d) (layS d h j st1))] ++ [rowB q2 (rowQ (d * d) (lcgN (d * d) (layS d h j st1)))] ++ [rowB q3 (rowQ (d * d) (lcgN (d * d) (lcgN (d * d) (layS d h j st1))))] ++ [rowB q4b (rowQ (d * d) (lcgN (d * d) (lcgN (d * d) (lcgN (d * d) (layS d h j st1)))))] ++ [rowB q5 (rowQ (h * d) (lcgN (d * d) (lcgN (d * d) (lcgN (d * d) (lcgN (d * d) (layS d h j st1))))))] ++ [rowB q6 (rowQ (h * d) (lcgN (h * d) (lcgN (d * d) (lcgN (d * d) (lcgN (d * d) (lcgN (d * d) (layS d h j st1)))))))] ++ [rowB q7 (rowQ (d * h) (lcgN (h * d) (lcgN (h * d) (lcgN (d * d) (lcgN (d * d) (lcgN (d * d) (lcgN (d * d) (layS d h j st1))))))))] = L ++ [B].flatMap Bk.rows := fun L => by
          rw [List.flatMap_cons, hBr, hs00]; simp [List.append_assoc]
        rw [er, List.append_assoc, ← List.flatMap_append] at hS
        refine sA [] rfl ?_; refine ev_arith rfl rfl rfl rfl rfl (by simp only [lowK, hiK]; omega) ?_; refine sA [] rfl ?_
        exact ev_next (j + 1, nv, bs ++ [B]) (by simp only; omega) ⟨by simp only; omega, by simp only [List.length_append, List.length_cons, List.length_nil]; omega, hS, hΦ, hO, by simp only [List.map_append, List.map_cons, List.map_nil]; rw [hpb, hBp, hs00, ← layF_succ], hnv, hsz⟩ ⟨rfl, rfl, rfl, rfl, rfl, rfl, rfl, rfl, rfl, rfl, by rw [show ((j + 1 : Nat) : Int) = (j : Int) + 1 by omega]; rfl, trivial⟩
      · have hjl : j = l := by omega
        have hBe := hΦ2 hΦ
        refine sA [] rfl ?_; refine ev_loadB rfl rfl tabOk rfl rfl ‹_› (by rfl) ?_; refine sA [] rfl ?_; refine ev_arith rfl rfl rfl rfl rfl (by simp only [lowK, hiK]; omega) ?_
        rw [show (n : Int) * d = ((n * d : Nat) : Int) by rw [Int.natCast_mul]]
        have hsl := layS_lt (d := d) (h := h) hst1l j
        have hbx : ∀ g, bv.ownBlock = some g → ¬ g = x := fun g hg => (hS.oth g (.inr hg)).2.2
        have hbb : ∀ g, bv.ownBlock = some g → ¬ g = b := fun g hg => (hS.oth g (.inr hg)).2.1
        refine ev_call rfl rfl rfl (wRow x (layS d h j st1) (n * d) _ hS.mkr hsl (by omega)) (fun r u2 hr => ?_)
        obtain ⟨q8, rfl, hR, hq, hX, hf⟩ := hr
        have hS := hS.row hR hq hX hf (by rw [rowQ_len]; omega)
        have hΦ := hΦf hΦ hf hOx
        have hBk := hBk.fr hf hbx
        clear hR hq hX hf hBe
        refine sA [] rfl ?_
        refine ev_store tabOk rfl rfl rfl rfl rfl rfl hS.blk rfl (fun u3 hM hf => ?_)
        have hS : SP 51 w u3 b x (smC n c d k l h tv mv (.slice (some ⟨q4, 0, none⟩) (n * d) (n * d)) r1.v r2.v bv r3.v (.slice (some ⟨q, 0, none⟩) d d) (.slice (some ⟨q8, 0, none⟩) (n * d) (n * d)) (4 + levQ d)) _ _ _ := hS.set hM hf
        have hΦ := hΦf hΦ hf hOb
        have hBk := hBk.fr hf hbb
        have hMb := hS.blk
        clear hM hf
        refine sA [] rfl ?_; refine ev_loadAggB rfl rfl tabOk rfl rfl ‹_› (by rfl) ?_
        obtain rfl : l = j := hjl.symm
        have hΦ3 : Blk u3 p2 (shpC ⟨n, c, d, k, l, h⟩) 23 ∧ Blk u3 p4 (lmC zM) 51 ∧ Own u3 9 1 tv n ((txts n).map sv) ∧ Own u3 114 3 mv (mrgs n).length (mcs (mrgs n)) := by subst hΦ0; exact hΦ
        obtain ⟨_, hD3, hTx, hMg⟩ := hΦ3
        have hOt : ∀ g, tv.ownBlock = some g → O g := fun g hg => by subst hO0; exact .inr (.inr (.inl hg))
        have hOm : ∀ g, mv.ownBlock = some g → O g := fun g hg => by subst hO0; exact .inr (.inr (.inr hg))
        have hO4 : O p4 := by subst hO0; exact .inr (.inl rfl)
        have hp4t : ∀ g, tv.ownBlock = some g → ¬ g = p4 := fun g hg e => by have := htv g hg; omega
        have hp4m : ∀ g, mv.ownBlock = some g → ¬ g = p4 := fun g hg e => by have := hmv g hg; omega
        have hp4b : ∀ g, bv.ownBlock = some g → ¬ g = p4 := fun g hg e => by have := hbv g hg; have := hOl p4 hO4; omega
        clear hΦ hΦ0 hΦf hΦ2
        obtain ⟨tA, tc, rfl, _, _⟩ := hTx.slice
        obtain ⟨mA, mc, rfl, _, _⟩ := hMg.slice
        obtain ⟨bA, bc, rfl, _, _⟩ := hBk.slice
        refine ev_storeAgg tabOk rfl rfl rfl rfl rfl rfl hD3 rfl (fun u4 hD hf => ?_)
        have hS := hS.other (.inl hO4) (by omega) hf
        have hTx := hTx.fr hf hp4t
        have hMg := hMg.fr hf hp4m
        have hBk := hBk.fr hf hp4b
        obtain ⟨m, hm⟩ : ∃ m : LM, m = ⟨⟨n, c, d, k, l, h⟩, tA, tc, mA, mc, ⟨txts n, mrgs n⟩, rowB q4 (rowQ (n * d) (seed64 seed)), 2, r1, r2, bA, bc, bs, r3, rowB q (gainF d), rowB q8 (rowQ (n * d) (layS d h l st1)), 4 + levQ d⟩ := ⟨_, rfl⟩
        have hmc : lmC m = smC n c d k l h (.slice tA n tc) (.slice mA (mrgs n).length mc) (.slice (some ⟨q4, 0, none⟩) (n * d) (n * d)) r1.v r2.v (.slice bA l bc) r3.v (.slice (some ⟨q, 0, none⟩) d d) (.slice (some ⟨q8, 0, none⟩) (n * d) (n * d)) (4 + levQ d) := by
          subst hm; simp only [lmC, smC, Rw.v, rowQ_len, gain_len, txts_len, hbl]
        have hsp : sampleP ⟨n, c, d, k, l, h⟩ seed = ⟨⟨n, c, d, k, l, h⟩, ⟨txts n, mrgs n⟩, rowQ (n * d) (seed64 seed), 2, cosF c hh, sinF c hh, layF d h l st1, BEND, gainF d, rowQ (n * d) (layS d h l st1), 4 + levQ d⟩ := by
          unfold sampleP; simp only [hhh]; subst hst1; rfl
        have hmp : m.p = sampleP ⟨n, c, d, k, l, h⟩ seed := by
          rw [hsp]; subst hm; unfold LM.p; simp only [hx1, hx2, hx3, hpb]
        have hall : m.all = [rowB q (gainF d)] ++ [r1, r2] ++ [r3] ++ [rowB q4 (rowQ (n * d) (seed64 seed))] ++ bs.flatMap Bk.rows ++ [rowB q8 (rowQ (n * d) (layS d h l st1))] := by subst hm; rfl
        have et : Value.slice m.tA m.V.texts.length m.tc = .slice tA n tc := by subst hm; simp only [txts_len]
        have em : Value.slice m.mA m.V.merges.length m.mc = .slice mA (mrgs n).length mc := by subst hm; rfl
        have eb : Value.slice m.bA m.bs.length m.bc = .slice bA l bc := by subst hm; simp only [hbl]
        have hOw : OwnM 114 60 w u4 m := by
          refine ⟨fun r hr => (hS.rows r (by rw [← hall]; exact hr)).1, by rw [hall]; exact hS.ap, ?_, ?_, ?_, fun g hg => ?_, fun g hg => ?_, fun g hg => ?_, hS.fr⟩
          · rw [et]; subst hm; simp only [txts_len]; exact hTx
          · rw [em]; subst hm; exact hMg
          · rw [eb]; subst hm; simp only [hbl]; exact hBk
          · rw [et, em, eb] at hg
            rw [hall]
            rcases hg with z | z | z
            · exact ⟨by have := htv g z; omega, fun r hr e => (hS.rows r hr).2.2.2 g e (.inl (hOt g z))⟩
            · exact ⟨by have := hmv g z; omega, fun r hr e => (hS.rows r hr).2.2.2 g e (.inl (hOm g z))⟩
            · exact ⟨by have := hbv g z; omega, fun r hr e => (hS.rows r hr).2.2.2 g e (.inr z)⟩
          · rw [et] at hg
            rw [em, eb]
            exact ⟨htm g hg, fun e => by have := hbv g e; have := hOl g (hOt g hg); omega⟩
          · rw [em] at hg
            rw [eb]
            exact fun e => by have := hbv g e; have := hOl g (hOm g hg); omega
        rw [← hmc] at hD ⊢
        refine sA [] rfl ?_
        exact retG tabOk (.inr rfl) rfl [lmV m, i64 0] ⟨⟨_, rfl, .inl ⟨rfl, _, rfl, rfl, Cs.of_blk hD⟩⟩, rfl, trivial⟩ ⟨m, rfl, hmp, hOw⟩
theorem wSampleNo (s : Shp) (seed : Int) (w : World) (o : ¬ okS s) : CallsF Tryd.prog 20 [shpV s, i64 seed] w fun r w' => r = .tuple #[lmV zM, i64 160] ∧ Fr no w w' := by
  refine callsF Tryd.func20 rfl rfl (by decide) rfl ?_
  refine sA [] rfl ?_
  refine ev_box rfl rfl rfl (fun p2 w1 hp2 hB1 hf1 => ?_)
  have hB1 : Blk w1 p2 (shpC s) _ := hB1
  refine ev_alloc rfl rfl inf51 (fun p4 w2 hp4 hD2 hf2 => ?_)
  have hB2 := hB1.fr0 hf2
  clear hB1
  refine sA [] rfl ?_; refine ev_loadAggB rfl rfl tabOk rfl rfl ‹_› (by rfl) ?_
  refine ev_call rfl rfl rfl (wChk s _) (fun r w3 hr => ?_)
  obtain ⟨rfl, hf3⟩ := hr
  rw [chk_n o]
  have hD3 := hD2.fr0 hf3
  have hF3 := (hf1.tr hf2).tr hf3
  clear hB2 hD2
  refine sA [] rfl ?_
  refine ev_build rfl rfl (v := lmV zM) rfl (fun w => by kernel_rfl) ?_
  refine sA [] rfl ?_
  refine ev_storeAgg tabOk rfl rfl rfl rfl rfl rfl hD3 rfl (fun w4 hD4 hf4 => ?_)
  have hF4 : Fr no w w4 := hF3.trans hf4 fun z hz e => by have : z = p4 := e; have := hf1.size; omega
  refine sA [] rfl ?_
  exact retG tabOk (.inr rfl) rfl [lmV zM, i64 160] ⟨⟨_, rfl, .inl ⟨rfl, _, rfl, rfl, Cs.of_blk hD4⟩⟩, rfl, trivial⟩ ⟨rfl, hF4⟩
end Go.Wk.YtfgllkflnkolhaaDoor
