/-
  The walks of chapter 14: the clean form, ends of texts, half characters.
-/
import Derived.Test.YtpnhfkmgnkdleaaDoorStC
set_option linter.unusedVariables false
namespace Go.Wk.YtpnhfkmgnkdleaaDoor
open Go Go.Wk Go.Proofs Go.Lib

theorem take_drop (s : List UInt8) (i n : Nat) : (s.take (i + n)).drop i = (s.drop i).take n := by rw [List.drop_take]; congr 1; omega

theorem wClean (s : List UInt8) (w : World) (hs : s.length ≤ 10000000000000) (hT : UT w) : CallsF Tryd.prog 24 [.string (sOf s)] w fun r w' => r = .string (sOf (clean s)) ∧ Fr no w w' := by
  have hcl := clean_len s
  have hT1 := (hT.1 0 (by omega))
  have h01 : 1 < w.heap.size := cell_lt (hT.2 0 (by omega)).1
  refine callsF Tryd.func24 rfl rfl (by decide) rfl ?_
  refine sA [] rfl ?_
  refine ev_alloc rfl rfl inf89 (fun b w1 hb hB1 hf1 => ?_)
  refine sA [] rfl ?_
  refine ev_range tabOk rfl rfl rfl rfl (fun r w2 hr hI2 hf2 => ?_)
  have hbl := hB1.lt
  have hB2 : Bd w2 b (.slice none 0 0) [] := ⟨.pointer none, .inl rfl, hB1.fr0 hf2, Own.nil _ _ _, by simp [Value.ownBlock]⟩
  have hrw : w.heap.size ≤ r := by have := hf1.size; omega
  have hrb : b < r := by omega
  refine sA [] rfl ?_
  refine ev_loop (α := Nat × Value × List UInt8) (fun y => [(0, .string (sOf s)), (3, .pointer (some ⟨b, 0, none⟩)), (9, .pointer (some ⟨r, 0, none⟩))])
    (fun y w' => y.1 ≤ s.length ∧ Itr w' r s y.1 ∧ Bd w' b y.2.1 y.2.2 ∧ y.2.2 ++ clean (s.drop y.1) = clean s ∧ (∀ g, y.2.1.ownBlock = some g → w.heap.size ≤ g ∧ g ≠ r) ∧ Fr no w w') (fun y => s.length - y.1) (0, .slice none 0 0, []) ⟨rfl, rfl, rfl, trivial⟩
    ⟨Nat.zero_le _, hI2, hB2, rfl, fun g hg => (by cases hg), hf1.tr hf2⟩ ?_
  clear hI2 hB2 hf1 hf2 hB1
  rintro ⟨pos, v, out⟩ w3 ⟨hpos, hI, hB, hout, hg, hf⟩
  simp only at hpos hI hB hout hg
  have hol : out.length + (clean (s.drop pos)).length = (clean s).length := by rw [← hout, List.length_append]
  refine sA [] rfl ?_
  refine ev_next1 rfl rfl rfl hI (fun w4 hlt hI4 hf4 => ?_) (fun hlt => ?_)
  · have hd := dcd_spec (s.drop pos) rfl (by rw [List.length_drop]; omega)
    have hll : (s.drop pos).length = s.length - pos := List.length_drop
    have hw1 := wid_pos (s.drop pos)
    have hw2 := wid_le (l := s.drop pos) (by omega)
    have hcc := clean_cons (l := s.drop pos) (by omega)
    have etd := take_drop s pos (wid (s.drop pos))
    have edd : (s.drop pos).drop (wid (s.drop pos)) = s.drop (pos + wid (s.drop pos)) := by rw [List.drop_drop]
    have ed : (s.take (s.length : Int).toNat).drop (pos : Int).toNat = s.drop pos := by rw [Int.toNat_natCast, Int.toNat_natCast, List.take_length]
    rw [edd] at hcc
    rw [hd.1] at hI4
    have hrl := hI.lt
    have hsz := hf.size
    have hB4 := hB.fr hf4 (fun e => by omega) (fun g hg' e => (hg g hg').2 e)
    have hf04 : Fr no w w4 := hf.trans hf4 (fun c hc e => by omega)
    clear hI hB hf4
    obtain ⟨l, hl⟩ : ∃ l, l = s.drop pos := ⟨_, rfl⟩
    rw [← hl] at hd hll hw1 hw2 hcc etd edd ed hI4 hout hol
    obtain ⟨n, hn⟩ : ∃ n, n = wid l := ⟨_, rfl⟩
    rw [← hn] at hd hw1 hw2 hcc etd edd hI4
    generalize hD : (dcd s pos).1 = D at *
    refine sA [] rfl ?_
    refine ev_sliceStr rfl rfl tabOk rfl rfl rfl rfl (by omega) (by omega) (by omega) ?_
    rw [ed]
    refine ev_call rfl rfl rfl (decRune l _ (by omega) (by omega) (hT.fr0 hf04)) (fun q w5 hq => ?_)
    obtain ⟨⟨r', rfl, _⟩, hf5⟩ := hq
    rw [← hn]
    have hI5 := hI4.fr0 hf5
    have hB5 := hB4.fr0 hf5
    have hf05 := hf04.tr hf5
    clear hI4 hB4 hf5 hf04
    have next : ∀ (q : Value) (w6 : World) (t : List UInt8), (∃ v', Bd w6 b v' (out ++ t) ∧ Fr (BS b v) w5 w6 ∧ NB w5 v v') → t ++ clean (s.drop (pos + n)) = clean l → ∃ v', Itr w6 r s (pos + n) ∧ Bd w6 b v' (out ++ t) ∧ (out ++ t) ++ clean (s.drop (pos + n)) = clean s ∧ (∀ g, v'.ownBlock = some g → w.heap.size ≤ g ∧ g ≠ r) ∧ Fr no w w6 := by
      rintro q w6 t ⟨v', h1, h2, h3⟩ ht
      refine ⟨v', hI5.fr h2 (fun e => by
        rcases e with e | e
        · omega
        · exact (hg r e).2 rfl), h1, by rw [List.append_assoc, ht, hout], fun g hg' => ?_, hf05.trans h2 (fun c hc e => ?_)⟩
      · rcases h3 g hg' with h | h
        · exact hg g h
        · have := hI5.lt; have := hf05.size; exact ⟨by omega, by omega⟩
      · rcases e with e | e
        · omega
        · have := (hg c e).1; omega
    by_cases hgd : good l
    · rw [if_pos hgd] at hcc
      have hno : ¬ ((D : Int) = 65533 ∧ (n : Int) = 1) := fun h => by
        have := hd.2.2 hgd (by omega); omega
      have hwr := bdWrite b v out (l.take n) w5 hB5 (by rw [List.length_take]; omega)
      refine sC [] rfl ?_; refine sC [] rfl ?_; refine sD [] rfl ?_; refine sD [] rfl ?_; refine sD [] rfl ?_
      refine ev_join2 (α := Value) (fun _ => [(0, .string (sOf s)), (3, .pointer (some ⟨b, 0, none⟩)), (9, .pointer (some ⟨r, 0, none⟩))]) (fun v' w6 => Itr w6 r s (pos + n) ∧ Bd w6 b v' (out ++ l.take n) ∧ (out ++ l.take n) ++ clean (s.drop (pos + n)) = clean s ∧ (∀ g, v'.ownBlock = some g → w.heap.size ≤ g ∧ g ≠ r) ∧ Fr no w w6) ?_ ?_
      · refine ev_guardD rfl rfl (fun h1 => ?_) (fun h1 => ?_)
        · refine sC [] rfl ?_
          refine ev_condD rfl (fun h2 => absurd ⟨h1, h2⟩ hno) (fun h2 => ?_)
          refine sA [] rfl ?_; refine ev_arith rfl rfl rfl rfl rfl (by simp only [lowK, hiK]; omega) ?_
          refine ev_sliceStr rfl rfl tabOk rfl rfl rfl rfl (by omega) (by omega) (by omega) ?_
          rw [show ((pos : Int) + (n : Int)).toNat = pos + n by omega, Int.toNat_natCast, etd]
          refine ev_call rfl rfl rfl hwr (fun q w6 hq => ?_)
          obtain ⟨v', hn'⟩ := next q w6 _ hq hcc.symm
          refine sA [] rfl ?_
          exact ev_out v' hn' ⟨rfl, rfl, rfl, trivial⟩
        · refine sA [] rfl ?_; refine ev_arith rfl rfl rfl rfl rfl (by simp only [lowK, hiK]; omega) ?_
          refine ev_sliceStr rfl rfl tabOk rfl rfl rfl rfl (by omega) (by omega) (by omega) ?_
          rw [show ((pos : Int) + (n : Int)).toNat = pos + n by omega, Int.toNat_natCast, etd]
          refine ev_call rfl rfl rfl hwr (fun q w6 hq => ?_)
          obtain ⟨v', hn'⟩ := next q w6 _ hq hcc.symm
          refine sA [] rfl ?_
          exact ev_out v' hn' ⟨rfl, rfl, rfl, trivial⟩
      rintro v' w6 ⟨k1, k2, k3, k4, k5⟩
      refine sA [] rfl ?_
      exact ev_next (pos + n, v', out ++ l.take n) (by simp only; omega) ⟨by simp only; omega, k1, k2, k3, k4, k5⟩ ⟨rfl, rfl, rfl, trivial⟩
    · rw [if_neg hgd] at hcc
      obtain ⟨h1, h2⟩ := hd.2.1 hgd
      rw [h1]
      subst h2
      have hwr := bdWrite b v out repl w5 hB5 (by simp [repl]; omega)
      refine sA [] rfl ?_
      refine ev_call rfl rfl rfl hwr (fun q w6 hq => ?_)
      obtain ⟨v', k1, k2, k3, k4, k5⟩ := next q w6 _ hq hcc.symm
      refine sA [] rfl ?_
      exact ev_next (pos + 1, v', out ++ repl) (by simp only; omega) ⟨by simp only; omega, k1, k2, k3, k4, k5⟩ ⟨rfl, rfl, rfl, trivial⟩
  · have hp : s.drop pos = [] := List.drop_eq_nil_of_le (by omega)
    rw [hp, clean_nil, List.append_nil] at hout
    subst hout
    refine sA [] rfl ?_
    refine ev_call rfl rfl rfl (bdString b v _ _ hB) (fun q w5 hq => ?_)
    obtain ⟨rfl, hf5⟩ := hq
    refine sA [] rfl ?_
    exact ret1 (.inr rfl) rfl rfl ⟨rfl, hf.trans hf5 (fun c hc e => by
      rcases e with e | e
      · omega
      · have := (hg c e).1; omega)⟩
end Go.Wk.YtpnhfkmgnkdleaaDoor
