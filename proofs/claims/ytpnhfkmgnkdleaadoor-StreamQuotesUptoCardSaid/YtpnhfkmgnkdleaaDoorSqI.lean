/-
  The walks of chapter 14: the document's Unquote.
-/
import Derived.Test.YtpnhfkmgnkdleaaDoorSqE
import Derived.Test.YtpnhfkmgnkdleaaDoorStE
set_option linter.unusedVariables false
namespace Go.Wk.YtpnhfkmgnkdleaaDoor
open Go Go.Wk Go.Proofs

theorem refLetter (c : UInt8) (w : World) : CallsF Tryd.prog 63 [bv c] w fun r w' => r = bv (ltr c) ∧ w' = w := by
  have ne : ∀ {c : UInt8} {k : UInt8}, ¬ c = k → ¬ (c.toNat : Int) = (k.toNat : Int) := fun h e => h (UInt8.toNat_inj.1 (by omega))
  refine callsF Tryd.func63 rfl rfl (by decide) rfl ?_
  refine sC [] rfl ?_; refine sC [] rfl ?_; refine sC [] rfl ?_; refine sC [] rfl ?_
  by_cases a1 : c = 34
  · subst a1
    refine sA [] rfl ?_
    exact ret1 (.inr rfl) rfl rfl ⟨rfl, rfl⟩
  by_cases a2 : c = 92
  · subst a2
    refine sA [] rfl ?_
    exact ret1 (.inr rfl) rfl rfl ⟨rfl, rfl⟩
  by_cases a3 : c = 47
  · subst a3
    refine sA [] rfl ?_
    exact ret1 (.inr rfl) rfl rfl ⟨rfl, rfl⟩
  rw [show decide ((c.toNat : Int) = 34) = false from decide_eq_false (ne a1)]
  refine sC [] rfl ?_; refine sD [] rfl ?_; refine sD [] rfl ?_
  rw [show decide ((c.toNat : Int) = 92) = false from decide_eq_false (ne a2)]
  refine sC [] rfl ?_; refine sD [] rfl ?_
  rw [show decide ((c.toNat : Int) = 47) = false from decide_eq_false (ne a3)]
  refine sC [] rfl ?_; refine sD [] rfl ?_; refine sD [] rfl ?_
  by_cases a4 : c = 98
  · subst a4
    refine sA [] rfl ?_
    exact ret1 (.inr rfl) rfl rfl ⟨rfl, rfl⟩
  rw [show decide ((c.toNat : Int) = 98) = false from decide_eq_false (ne a4)]
  refine sC [] rfl ?_; refine sD [] rfl ?_; refine sD [] rfl ?_
  by_cases a5 : c = 102
  · subst a5
    refine sA [] rfl ?_
    exact ret1 (.inr rfl) rfl rfl ⟨rfl, rfl⟩
  rw [show decide ((c.toNat : Int) = 102) = false from decide_eq_false (ne a5)]
  refine sC [] rfl ?_; refine sD [] rfl ?_; refine sD [] rfl ?_
  by_cases a6 : c = 110
  · subst a6
    refine sA [] rfl ?_
    exact ret1 (.inr rfl) rfl rfl ⟨rfl, rfl⟩
  rw [show decide ((c.toNat : Int) = 110) = false from decide_eq_false (ne a6)]
  refine sC [] rfl ?_; refine sD [] rfl ?_; refine sD [] rfl ?_
  by_cases a7 : c = 114
  · subst a7
    refine sA [] rfl ?_
    exact ret1 (.inr rfl) rfl rfl ⟨rfl, rfl⟩
  rw [show decide ((c.toNat : Int) = 114) = false from decide_eq_false (ne a7)]
  refine sC [] rfl ?_; refine sD [] rfl ?_; refine sD [] rfl ?_
  by_cases a8 : c = 116
  · subst a8
    refine sA [] rfl ?_
    exact ret1 (.inr rfl) rfl rfl ⟨rfl, rfl⟩
  rw [show decide ((c.toNat : Int) = 116) = false from decide_eq_false (ne a8)]
  refine sA [] rfl ?_
  refine ret1 (.inr rfl) rfl rfl ⟨?_, rfl⟩
  unfold ltr
  rw [if_neg (by rintro (z | z | z) <;> contradiction), if_neg a4, if_neg a5, if_neg a6, if_neg a7, if_neg a8]; rfl

theorem refEncoded (n : Int) (w : World) (h0 : 0 ≤ n) (h1 : n ≤ 1114111) (h2 : ¬ (55296 ≤ n ∧ n ≤ 57343)) :
    CallsF Tryd.prog 65 [.int .i64 n] w fun r w' => (∃ A c, r = .slice A (rb n).length c ∧ Cs w' A ((rb n).map bv)) ∧ Fr no w w' := by
  have fin : ∀ {cs : List Value} {g : Nat} {w' : World}, Lib.runeCells n = cs → Blk w' g cs 5 → ∃ A c, Value.slice (some ⟨g, 0, none⟩) cs.length cs.length = .slice A (rb n).length c ∧ Cs w' A ((rb n).map bv) := fun {cs} {g} {w'} e hb => by
    have hl : cs.length = (rb n).length := by rw [← e, rb_cells, List.length_map]
    exact ⟨_, _, by rw [hl], by rw [← rb_cells, e]; exact Cs.of_blk hb⟩
  refine callsF Tryd.func65 rfl rfl (by decide) rfl ?_
  refine sC [] rfl ?_; refine sC [] rfl ?_; refine sD [] rfl ?_; refine sD [] rfl ?_
  refine ev_condD rfl (fun c1 => ?_) (fun c1 => ?_)
  · refine sA [] rfl ?_; refine ev_conv rfl rfl tabOk rfl rfl rfl (by simp only [lowK, hiK]; omega) ?_
    refine ev_buildSlice tabOk rfl rfl rfl inf5 rfl rfl rfl (by simp [Value.cells]) rfl (fun g w4 hg4 hb4 hf4 => ?_)
    have hb4 : Blk w4 g [.int .u8 n] 5 := hb4
    refine sA [] rfl ?_
    exact ret1 (.inr rfl) rfl rfl ⟨fin (by unfold Lib.runeCells; rw [Lib.encodeRuneZ_one h0 (by omega)]; rfl) hb4, hf4⟩
  · refine sC [] rfl ?_; refine sD [] rfl ?_; refine sD [] rfl ?_; refine sD [] rfl ?_
    refine ev_condD rfl (fun c2 => ?_) (fun c2 => ?_)
    · refine sA [] rfl ?_; refine ev_quo rfl rfl rfl rfl (by omega) (by omega) (by simp only [hiK]; omega) ?_; refine ev_arith rfl rfl rfl rfl rfl (by simp only [lowK, hiK]; omega) ?_; refine ev_conv rfl rfl tabOk rfl rfl rfl (by simp only [lowK, hiK]; omega) ?_; refine sA [] rfl ?_; refine ev_rem rfl rfl rfl rfl (by omega) (by omega) ?_; refine ev_arith rfl rfl rfl rfl rfl (by simp only [lowK, hiK]; omega) ?_; refine ev_conv rfl rfl tabOk rfl rfl rfl (by simp only [lowK, hiK]; omega) ?_
      refine ev_buildSlice tabOk rfl rfl rfl inf5 rfl rfl rfl (by simp [Value.cells]) rfl (fun g w4 hg4 hb4 hf4 => ?_)
      have hb4 : Blk w4 g [.int .u8 (192 + n / 64), .int .u8 (128 + n % 64)] 5 := hb4
      refine sA [] rfl ?_
      exact ret1 (.inr rfl) rfl rfl ⟨fin (by unfold Lib.runeCells; rw [Lib.encodeRuneZ_two (by omega) (by omega)]; rfl) hb4, hf4⟩
    · refine sC [] rfl ?_; refine sD [] rfl ?_; refine sD [] rfl ?_; refine sD [] rfl ?_
      refine ev_condD rfl (fun c3 => ?_) (fun c3 => ?_)
      · refine sA [] rfl ?_; refine ev_quo rfl rfl rfl rfl (by omega) (by omega) (by simp only [hiK]; omega) ?_; refine ev_arith rfl rfl rfl rfl rfl (by simp only [lowK, hiK]; omega) ?_; refine ev_conv rfl rfl tabOk rfl rfl rfl (by simp only [lowK, hiK]; omega) ?_; refine sA [] rfl ?_; refine ev_quo rfl rfl rfl rfl (by omega) (by omega) (by simp only [hiK]; omega) ?_; refine ev_rem rfl rfl rfl rfl (by omega) (by omega) ?_; refine ev_arith rfl rfl rfl rfl rfl (by simp only [lowK, hiK]; omega) ?_; refine ev_conv rfl rfl tabOk rfl rfl rfl (by simp only [lowK, hiK]; omega) ?_; refine sA [] rfl ?_; refine ev_rem rfl rfl rfl rfl (by omega) (by omega) ?_; refine ev_arith rfl rfl rfl rfl rfl (by simp only [lowK, hiK]; omega) ?_; refine ev_conv rfl rfl tabOk rfl rfl rfl (by simp only [lowK, hiK]; omega) ?_
        refine ev_buildSlice tabOk rfl rfl rfl inf5 rfl rfl rfl (by simp [Value.cells]) rfl (fun g w4 hg4 hb4 hf4 => ?_)
        have hb4 : Blk w4 g [.int .u8 (224 + n / 4096), .int .u8 (128 + n / 64 % 64), .int .u8 (128 + n % 64)] 5 := hb4
        refine sA [] rfl ?_
        exact ret1 (.inr rfl) rfl rfl ⟨fin (by unfold Lib.runeCells; rw [Lib.encodeRuneZ_three (by omega)]; rfl) hb4, hf4⟩
      · refine sA [] rfl ?_; refine ev_quo rfl rfl rfl rfl (by omega) (by omega) (by simp only [hiK]; omega) ?_; refine ev_arith rfl rfl rfl rfl rfl (by simp only [lowK, hiK]; omega) ?_; refine ev_conv rfl rfl tabOk rfl rfl rfl (by simp only [lowK, hiK]; omega) ?_; refine sA [] rfl ?_; refine ev_quo rfl rfl rfl rfl (by omega) (by omega) (by simp only [hiK]; omega) ?_; refine ev_rem rfl rfl rfl rfl (by omega) (by omega) ?_; refine ev_arith rfl rfl rfl rfl rfl (by simp only [lowK, hiK]; omega) ?_; refine ev_conv rfl rfl tabOk rfl rfl rfl (by simp only [lowK, hiK]; omega) ?_; refine sA [] rfl ?_; refine ev_quo rfl rfl rfl rfl (by omega) (by omega) (by simp only [hiK]; omega) ?_; refine ev_rem rfl rfl rfl rfl (by omega) (by omega) ?_; refine ev_arith rfl rfl rfl rfl rfl (by simp only [lowK, hiK]; omega) ?_; refine ev_conv rfl rfl tabOk rfl rfl rfl (by simp only [lowK, hiK]; omega) ?_; refine sA [] rfl ?_; refine ev_rem rfl rfl rfl rfl (by omega) (by omega) ?_; refine ev_arith rfl rfl rfl rfl rfl (by simp only [lowK, hiK]; omega) ?_; refine ev_conv rfl rfl tabOk rfl rfl rfl (by simp only [lowK, hiK]; omega) ?_
        refine ev_buildSlice tabOk rfl rfl rfl inf5 rfl rfl rfl (by simp [Value.cells]) rfl (fun g w4 hg4 hb4 hf4 => ?_)
        have hb4 : Blk w4 g [.int .u8 (240 + n / 262144), .int .u8 (128 + n / 4096 % 64), .int .u8 (128 + n / 64 % 64), .int .u8 (128 + n % 64)] 5 := hb4
        refine sA [] rfl ?_
        exact ret1 (.inr rfl) rfl rfl ⟨fin (by unfold Lib.runeCells; rw [Lib.encodeRuneZ_four (by omega) (by omega)]; rfl) hb4, hf4⟩
end Go.Wk.YtpnhfkmgnkdleaaDoor
namespace Go.Wk.YtpnhfkmgnkdleaaDoor
open Go Go.Wk Go.Proofs

theorem own_slice {w : World} {v : Value} {bs : List UInt8} (ho : Own w 5 1 v bs.length (bs.map bv)) : ∃ A cap, v = .slice A bs.length cap ∧ Cs w A (bs.map bv) := by
  rcases ho.2 with ⟨rfl, h0⟩ | ⟨g, cap, cur, rfl, _⟩
  · have h0 : bs = [] := List.eq_nil_of_length_eq_zero (by simpa using h0)
    rw [h0]; exact ⟨none, 0, rfl, Cs.nil _ _⟩
  · refine ⟨_, _, rfl, fun j u hj => ⟨g, 0, rfl, ?_⟩⟩
    have := ho.cells (g := g) rfl j u hj
    rwa [Addr.add_lit] at this
/-- a row of bytes that is none of what was there -/
def Nw (w0 w : World) (v : Value) (bs : List UInt8) : Prop := Own w 5 1 v bs.length (bs.map bv) ∧ (∀ g, v.ownBlock = some g → w0.heap.size ≤ g) ∧ Fr no w0 w
theorem Nw.fr {w0 w w' : World} {v : Value} {bs : List UInt8} (h : Nw w0 w v bs) (hf : Fr no w w') : Nw w0 w' v bs := ⟨h.1.fr0 hf, h.2.1, h.2.2.tr hf⟩
theorem Nw.app {w0 w w' : World} {v v' : Value} {bs s : List UInt8} (h : Nw w0 w v bs) (ho : Own w' 5 1 v' (bs.length + s.length) (bs.map bv ++ s.map bv)) (hf : Fr (fun q => v.ownBlock = some q) w w') (hn : NB w v v') : Nw w0 w' v' (bs ++ s) := by
  refine ⟨by rw [List.length_append, List.map_append]; exact ho, fun g hg => ?_, h.2.2.trans hf fun b hb z => by have := h.2.1 b z; omega⟩
  rcases hn g hg with z | z
  · exact h.2.1 g z
  · exact Nat.le_trans h.2.2.size z

set_option maxHeartbeats 4000000 in
theorem refUnquote (t : List UInt8) (w : World) (ht : t.length ≤ 500000000) :
    CallsF Tryd.prog 34 [.string (sOf t)] w fun r w' => r = .tuple ⟨unqR t⟩ ∧ Fr no w w' := by
  have bad : ∀ {x : Nat} {y : Int}, unqF t = (false, [], x) → y = x → .tuple #[.string (sOf []), .int .i64 y, .int .i64 142] = Value.tuple ⟨unqR t⟩ := fun e h => by
    unfold unqR; rw [e, h]; rfl
  refine callsF Tryd.func34 rfl rfl (by decide) rfl ?_
  refine sC [] rfl ?_; refine sC [] rfl ?_; refine sC [] rfl ?_
  by_cases u0 : t = []
  · subst u0
    refine sA [] rfl ?_
    exact ret3 (.inr rfl) rfl rfl rfl rfl ⟨bad rfl rfl, Fr.refl _ _⟩
  have ht0 : 0 < t.length := List.length_pos_iff.2 u0
  rw [show decide (t = []) = false from decide_eq_false u0]
  refine sA [] rfl ?_; refine ev_index rfl rfl tabOk rfl rfl rfl (by omega) (by omega) ?_; refine sD [] rfl ?_; refine sD [] rfl ?_; refine sD [] rfl ?_
  rw [show (0 : Int).toNat = 0 from rfl]
  obtain ⟨c0, hc0⟩ : ∃ c, c = t.getD 0 0 := ⟨_, rfl⟩
  rw [← hc0]
  refine ev_condD rfl (fun d1 => ?_) (fun d1 => ?_)
  · have hE : unqF t = (false, [], 0) := if_neg fun z => d1 (by rw [hc0, z.2]; rfl)
    refine sA [] rfl ?_
    exact ret3 (.inr rfl) rfl rfl rfl rfl ⟨bad hE rfl, Fr.refl _ _⟩
  have hE : unqF t = readF (t.length + 1) t 1 [] := if_pos ⟨ht0, by rw [← hc0]; exact UInt8.toNat_inj.1 (by have := Decidable.not_not.1 d1; show c0.toNat = 34; omega)⟩
  refine sA [] rfl ?_
  refine ev_buildSlice tabOk rfl rfl rfl inf5 rfl rfl rfl (by simp) rfl (fun b w1 hb hb1 hf1 => ?_)
  have hb1 : Blk w1 b [] 5 := hb1
  have hO1 : Nw w w1 (.slice (some ⟨b, 0, none⟩) 0 0) [] := ⟨own_of_blk hb1 rfl (by omega), fun g hg => by cases hg; exact hb, hf1⟩
  refine sA [] rfl ?_
  refine ev_loop (α := Nat × List UInt8 × Value) (fun y => [(0, .string (sOf t)), (5, y.2.2), (6, .int .i64 y.1)])
    (fun y w' => y.1 ≤ t.length ∧ y.2.1.length ≤ 4 * y.1 ∧ (∃ f, t.length < f + y.1 ∧ unqF t = readF f t y.1 y.2.1) ∧ Nw w w' y.2.2 y.2.1) (fun y => t.length - y.1) (1, [], _) ⟨rfl, rfl, rfl, trivial⟩ ⟨ht0, Nat.zero_le _, ⟨_, by simp only; omega, hE⟩, hO1⟩ ?_
  clear hE hO1 hb1 hf1 d1
  rintro ⟨q, out, v⟩ w2 ⟨hq, hol, ⟨f, hf, hE⟩, hO⟩
  simp only at hq hol hf hE hO
  obtain ⟨f, rfl⟩ : ∃ g, f = g + 1 := ⟨f - 1, by omega⟩
  unfold readF at hE
  refine sC [] rfl ?_; refine sC [] rfl ?_
  refine ev_condD rfl (fun hlt => ?_) (fun hlt => ?_)
  · have hlt : q < t.length := by omega
    rw [if_neg fun z => z hlt] at hE
    refine sA [] rfl ?_; refine ev_index rfl rfl tabOk rfl rfl rfl (by omega) (by omega) ?_; refine sC [] rfl ?_; refine sC [] rfl ?_
    rw [show ((q : Nat) : Int).toNat = q from rfl]
    obtain ⟨c, hc⟩ : ∃ c, c = t.getD q 0 := ⟨_, rfl⟩
    rw [← hc] at hE ⊢
    have hcl := c.toNat_lt
    refine ev_condD rfl (fun h34 => ?_) (fun h34 => ?_)
    · have h34 : c = 34 := UInt8.toNat_inj.1 (by show c.toNat = 34; omega)
      rw [if_neg (by rw [h34]; decide), if_pos h34] at hE
      refine sA [] rfl ?_; refine ev_arith rfl rfl rfl rfl rfl (by simp only [lowK, hiK]; omega) ?_; refine sC [] rfl ?_
      refine ev_condD rfl (fun h35 => ?_) (fun h35 => ?_)
      · have hE := hE.trans (if_pos (by omega))
        refine sA [] rfl ?_; refine ev_arith rfl rfl rfl rfl rfl (by simp only [lowK, hiK]; omega) ?_; refine sA [] rfl ?_
        exact ret3 (.inr rfl) rfl rfl rfl rfl ⟨bad hE (by first | omega | (simp only; omega)), hO.2.2⟩
      · have hE := hE.trans (if_neg (by omega))
        obtain ⟨A, cap, rfl, hcs⟩ := own_slice hO.1
        refine sA [] rfl ?_
        refine ev_strOf rfl rfl tabOk rfl rfl rfl rfl hcs ?_
        refine sA [] rfl ?_
        exact ret3 (.inr rfl) rfl rfl rfl rfl ⟨by unfold unqR; rw [hE]; rfl, hO.2.2⟩
    have h34' : ¬ c = 34 := fun e => h34 (by rw [e]; rfl)
    refine sC [] rfl ?_; refine sD [] rfl ?_; refine sD [] rfl ?_; refine sD [] rfl ?_
    refine ev_condD rfl (fun h92 => ?_) (fun h92 => ?_)
    · have h92' : ¬ c = 92 := fun e => h92 (by rw [e]; rfl)
      have hS : oneF t q = charF t q := by unfold oneF; rw [← hc, if_neg h92']
      have hdl : (t.drop q).length = t.length - q := List.length_drop
      have hd0 : (t.drop q).getD 0 0 = c := by rw [hc, List.getD_eq_getElem?_getD, List.getElem?_drop, ← List.getD_eq_getElem?_getD, Nat.add_zero]
      have hfl := fits_le (t.drop q)
      rw [hd0] at hfl
      refine sA [] rfl ?_
      refine ev_sliceStr (s := t) rfl rfl tabOk rfl rfl rfl rfl (by omega) (by omega) (by omega) ?_
      rw [show ((t.length : Nat) : Int).toNat = t.length from rfl, List.take_length, show ((q : Nat) : Int).toNat = q from rfl]
      refine ev_call rfl rfl rfl (refFits (t.drop q) _ (by omega)) (fun r w3 hr => ?_)
      obtain ⟨rfl, hf3⟩ := hr
      have hO := hO.fr hf3
      refine sC [] rfl ?_; refine sC [] rfl ?_
      by_cases h32 : c.toNat < 32
      · have hE := hE.trans (if_pos h32)
        rw [show decide ((c.toNat : Int) < 32) = true from decide_eq_true (by omega)]
        refine sA [] rfl ?_
        exact ret3 (.inr rfl) rfl rfl rfl rfl ⟨bad hE (by first | omega | (simp only; omega)), hO.2.2⟩
      rw [if_neg h32, if_neg h34', hS] at hE
      rw [show decide ((c.toNat : Int) < 32) = false from decide_eq_false (by omega)]
      refine sA [] rfl ?_
      refine ev_call rfl rfl rfl (refSiz c _) (fun r w4 hr => ?_)
      obtain ⟨rfl, rfl⟩ := hr
      refine sD [] rfl ?_; refine sD [] rfl ?_; refine sD [] rfl ?_
      refine ev_condD rfl (fun s0 => ?_) (fun s0 => ?_)
      · have hng : ¬ good (t.drop q) := fun z => by have := z.1; omega
        have hC : charF t q = (false, [], q + fits (t.drop q)) := if_neg hng
        rw [hC, if_neg Bool.false_ne_true] at hE
        have hE : unqF t = (false, [], q) := hE.trans (by rw [show fits (t.drop q) = 0 by omega]; rfl)
        refine sA [] rfl ?_
        exact ret3 (.inr rfl) rfl rfl rfl rfl ⟨bad hE (by first | omega | (simp only; omega)), hO.2.2⟩
      refine sA [] rfl ?_
      refine ev_call rfl rfl rfl (refSiz c _) (fun r w5 hr => ?_)
      obtain ⟨rfl, rfl⟩ := hr
      refine sD [] rfl ?_; refine sD [] rfl ?_
      refine ev_condD rfl (fun s1 => ?_) (fun s1 => ?_)
      · have hng : ¬ good (t.drop q) := fun z => by have := z.2; rw [hd0] at this; omega
        have hC : charF t q = (false, [], q + fits (t.drop q)) := if_neg hng
        rw [hC, if_neg Bool.false_ne_true] at hE
        refine sA [] rfl ?_; refine ev_arith rfl rfl rfl rfl rfl (by simp only [lowK, hiK]; omega) ?_; refine sA [] rfl ?_
        exact ret3 (.inr rfl) rfl rfl rfl rfl ⟨bad hE (by first | omega | (simp only; omega)), hO.2.2⟩
      have hg : good (t.drop q) := ⟨by omega, by rw [hd0]; omega⟩
      have hw : wid (t.drop q) = fits (t.drop q) := if_pos hg
      have hC : charF t q = (true, (t.drop q).take (fits (t.drop q)), q + fits (t.drop q)) := by rw [← hw]; exact if_pos hg
      rw [hC, if_pos rfl] at hE
      have hsz := siz_le c
      refine sA [] rfl ?_; refine ev_arith rfl rfl rfl rfl rfl (by simp only [lowK, hiK]; omega) ?_
      refine ev_sliceStr (s := t) rfl rfl tabOk rfl rfl rfl rfl (by omega) (by omega) (by omega) ?_
      rw [show ((q : Int) + (fits (t.drop q) : Nat)).toNat = q + fits (t.drop q) by omega, show ((q : Nat) : Int).toNat = q from rfl, take_drop]
      have hsl : ((t.drop q).take (fits (t.drop q))).length = fits (t.drop q) := by rw [List.length_take]; omega
      refine ev_appendStr tabOk rfl rfl rfl rfl inf5 rfl rfl hO.1 (by omega) (fun v5 w5 ho5 hf5 hn5 => ?_)
      have hO := hO.app ho5 hf5 (NB.of hn5)
      refine sA [] rfl ?_; refine ev_arith rfl rfl rfl rfl rfl (by simp only [lowK, hiK]; omega) ?_; refine sA [] rfl ?_
      exact ev_next (q + fits (t.drop q), out ++ (t.drop q).take (fits (t.drop q)), v5) (by have := hg.1; simp only; omega) ⟨by simp only; omega, by simp only [List.length_append]; omega, ⟨f, by have := hg.1; simp only; omega, hE⟩, hO⟩ ⟨rfl, rfl, by rw [show (q : Int) + (fits (t.drop q) : Nat) = ((q + fits (t.drop q) : Nat) : Int) by omega]; rfl, trivial⟩
    · have h92 : c = 92 := UInt8.toNat_inj.1 (by have := Decidable.not_not.1 h92; show c.toNat = 92; omega)
      have hS : oneF t q = escF t (q + 1) := by unfold oneF; rw [← hc, if_pos h92]
      rw [if_neg (by rw [h92]; decide), if_neg h34', hS] at hE
      clear hS h92 hc h34 h34'
      have no_ : ∀ {x : Nat}, escF t (q + 1) = (false, [], x) → unqF t = (false, [], x) := fun e => by rw [hE, e, if_neg Bool.false_ne_true]
      refine sA [] rfl ?_; refine ev_arith rfl rfl rfl rfl rfl (by simp only [lowK, hiK]; omega) ?_; refine sC [] rfl ?_; refine sC [] rfl ?_; refine sD [] rfl ?_; refine sD [] rfl ?_
      refine ev_condD rfl (fun he => ?_) (fun he => ?_)
      · have hx : escF t (q + 1) = (false, [], q + 1) := if_pos (by omega)
        have hE := no_ hx
        refine sA [] rfl ?_
        exact ret3 (.inr rfl) rfl rfl rfl rfl ⟨bad hE (by first | omega | (simp only; omega)), hO.2.2⟩
      have hq1 : q + 1 < t.length := by omega
      obtain ⟨e, he0⟩ : ∃ e, e = t.getD (q + 1) 0 := ⟨_, rfl⟩
      refine sA [] rfl ?_; refine ev_index rfl rfl tabOk rfl rfl rfl (by omega) (by omega) ?_; refine sD [] rfl ?_; refine sD [] rfl ?_
      rw [show ((q : Int) + 1).toNat = q + 1 by omega, ← he0]
      have hX : ∀ x, (if ltr e ≠ 0 then (true, [ltr e], q + 1 + 1)
  else if e ≠ 117 then (false, [], q + 1)
  else if (four t false (q + 1 + 1)).1 = false then (false, [], (four t false (q + 1 + 1)).2.2)
  else if 55296 ≤ (four t false (q + 1 + 1)).2.1 ∧ (four t false (q + 1 + 1)).2.1 < 56320 then
    (if ¬ (q + 1 + 5 < t.length ∧ t.getD (q + 1 + 5) 0 = 92) then (false, [], q + 1 + 5)
     else if ¬ (q + 1 + 6 < t.length ∧ t.getD (q + 1 + 6) 0 = 117) then (false, [], q + 1 + 6)
     else if (four t true (q + 1 + 7)).1 = false then (false, [], (four t true (q + 1 + 7)).2.2)
     else (true, rb (65536 + 1024 * ((four t false (q + 1 + 1)).2.1 - 55296) + (four t true (q + 1 + 7)).2.1 - 56320), q + 1 + 11))
  else (true, rb (four t false (q + 1 + 1)).2.1, q + 1 + 5)) = x → escF t (q + 1) = x := fun x hx => by
        unfold escF; rw [if_neg (fun z => z hq1), ← he0]; exact hx
      refine ev_condD rfl (fun hu => ?_) (fun hu => ?_)
      · have hu : e ≠ 117 := fun z => hu (by rw [z]; rfl)
        refine sA [] rfl ?_; refine ev_index rfl rfl tabOk rfl rfl rfl (by omega) (by omega) ?_
        rw [show ((q : Int) + 1).toNat = q + 1 by omega, ← he0]
        refine ev_call rfl rfl rfl (refLetter e _) (fun r w4 hr => ?_)
        obtain ⟨rfl, rfl⟩ := hr
        refine sD [] rfl ?_; refine sD [] rfl ?_
        by_cases hl : ltr e = 0
        · have hx := hX _ ((if_neg fun z => z hl).trans (if_pos hu))
          have hE := no_ hx
          rw [hl]
          refine sA [] rfl ?_
          exact ret3 (.inr rfl) rfl rfl rfl rfl ⟨bad hE (by first | omega | (simp only; omega)), hO.2.2⟩
        · have hx := hX _ (if_pos hl)
          rw [hx, if_pos rfl] at hE
          rw [show decide (((ltr e).toNat : Int) = 0) = false from decide_eq_false fun z => hl (UInt8.toNat_inj.1 (by show (ltr e).toNat = 0; omega))]
          refine sA [] rfl ?_; refine ev_index rfl rfl tabOk rfl rfl rfl (by omega) (by omega) ?_
          rw [show ((q : Int) + 1).toNat = q + 1 by omega, ← he0]
          refine ev_call rfl rfl rfl (refLetter e _) (fun r w5 hr => ?_)
          obtain ⟨rfl, rfl⟩ := hr
          skip
          refine ev_append1 tabOk rfl rfl (fun _ => rfl) rfl rfl inf5 rfl (by omega) (fun _ => rfl) rfl rfl (by simp [Value.cells]) (by simp [flatV, Value.cells, Value.oneCell']) rfl hO.1 (by omega) (fun v5 w5 g ho5 hf5 hn5 => ?_)
          have hO := hO.app (s := [ltr e]) ho5 hf5 hn5
          refine sA [] rfl ?_; refine ev_arith rfl rfl rfl rfl rfl (by simp only [lowK, hiK]; omega) ?_; refine sA [] rfl ?_
          exact ev_next (q + 2, out ++ [ltr e], v5) (by simp only; omega) ⟨by simp only; omega, by simp only [List.length_append, List.length_cons, List.length_nil]; omega, ⟨f, by simp only; omega, hE⟩, hO⟩ ⟨rfl, rfl, by rw [show ((q : Int) + 1 + 1) = ((q + 2 : Nat) : Int) by omega]; rfl, trivial⟩
      have hu : e = 117 := UInt8.toNat_inj.1 (by have := Decidable.not_not.1 hu; show e.toNat = 117; omega)
      rw [if_neg (fun z => z (by rw [hu]; rfl)), if_neg (fun z => z hu)] at hX
      clear he0
      have hfa : (four t false (q + 1 + 1)).1 = true → (four t false (q + 1 + 1)).2.2 = q + 2 + 4 := four_at (t := t) (low := false) 4 0 0 (q + 2)
      have hfl : (four t false (q + 1 + 1)).2.2 ≤ t.length := four_le (t := t) (low := false) 4 0 0 (q + 1 + 1) (by omega)
      have hbd := four_bd (t := t) (low := false) (q := q + 1 + 1)
      have hlo := fun z => (four_low (t := t) (low := false) (q := q + 1 + 1) z).1 rfl
      refine sA [] rfl ?_; refine ev_arith rfl rfl rfl rfl rfl (by simp only [lowK, hiK]; omega) ?_
      rw [show ((q : Int) + 1 + 1) = ((q + 1 + 1 : Nat) : Int) by omega]
      refine ev_call rfl rfl rfl (refFour t false (q + 1 + 1) _ (by omega) (by omega)) (fun r w4 hr => ?_)
      obtain ⟨rfl, rfl⟩ := hr
      obtain ⟨f1, e1⟩ : ∃ x, x = (four t false (q + 1 + 1)).1 := ⟨_, rfl⟩
      obtain ⟨f2, e2⟩ : ∃ x, x = (four t false (q + 1 + 1)).2.1 := ⟨_, rfl⟩
      obtain ⟨f3, e3⟩ : ∃ x, x = (four t false (q + 1 + 1)).2.2 := ⟨_, rfl⟩
      rw [← e3] at hfl
      rw [← e1, ← e2, ← e3] at hX
      rw [← e1, ← e3] at hfa
      rw [← e1, ← e2] at hbd hlo
      rw [← e1, ← e2, ← e3]
      cases f1 with
      | false =>
        have hx := hX _ (if_pos rfl)
        have hE := no_ hx
        rw [if_neg Bool.false_ne_true]
        refine sA [] rfl ?_
        rw [show decide ((0 : Int) ≤ (f3 : Int)) = true from decide_eq_true (by omega)]
        skip
        exact ret3 (.inr rfl) rfl rfl rfl rfl ⟨bad hE (by first | omega | (simp only; omega)), hO.2.2⟩
      | true =>
        have hf3 := hfa rfl
        have hbd := hbd rfl
        have hlo := hlo rfl
        rw [if_neg (show ¬ true = false from fun z => Bool.noConfusion z)] at hX
        rw [if_pos rfl]
        refine sA [] rfl ?_; refine ev_arith rfl rfl rfl rfl rfl (by simp only [lowK, hiK]; omega) ?_; refine sC [] rfl ?_; refine sC [] rfl ?_
        refine ev_join2 (α := Int × Nat) (fun y => [(0, .string (sOf t)), (5, v), (6, .int .i64 y.2), (9, .int .i64 y.1)]) (fun y w' => escF t (q + 1) = (true, rb y.1, y.2) ∧ 0 ≤ y.1 ∧ y.1 ≤ 1114111 ∧ ¬ (55296 ≤ y.1 ∧ y.1 ≤ 57343) ∧ q < y.2 ∧ y.2 ≤ t.length ∧ w' = w4) ?_ ?_
        · by_cases s1 : 55296 ≤ f2
          · rw [show decide (55296 ≤ f2) = true from decide_eq_true s1]
            refine sC [] rfl ?_
            refine ev_condD rfl (fun s2 => ?_) (fun s2 => ?_)
            · rw [if_pos ⟨s1, s2⟩] at hX
              refine sC [] rfl ?_; refine sC [] rfl ?_
              by_cases v1 : q + 6 < t.length
              case neg =>
                have hx := hX _ (if_pos (fun z => v1 z.1))
                have hE := no_ hx
                rw [show decide ((t.length : Int) ≤ (q : Int) + 1 + 5) = true from decide_eq_true (by omega)]
                refine sA [] rfl ?_
                exact ret3 (.inr rfl) rfl rfl rfl rfl ⟨bad hE (by first | omega | (simp only; omega)), hO.2.2⟩
              rw [show decide ((t.length : Int) ≤ (q : Int) + 1 + 5) = false from decide_eq_false (by omega)]
              obtain ⟨g, hg0⟩ : ∃ g, g = t.getD (q + 6) 0 := ⟨_, rfl⟩
              refine sA [] rfl ?_; refine ev_index rfl rfl tabOk rfl rfl rfl (by omega) (by omega) ?_; refine sD [] rfl ?_; refine sD [] rfl ?_; refine sD [] rfl ?_
              rw [show ((q : Int) + 1 + 5).toNat = q + 6 by omega, ← hg0]
              refine ev_condD rfl (fun w1 => ?_) (fun w1 => ?_)
              · have hx := hX _ (if_pos (fun z => w1 (by rw [hg0, show t.getD (q + 6) 0 = 92 from z.2]; rfl)))
                have hE := no_ hx
                refine sA [] rfl ?_
                exact ret3 (.inr rfl) rfl rfl rfl rfl ⟨bad hE (by first | omega | (simp only; omega)), hO.2.2⟩
              have w1 : g = 92 := UInt8.toNat_inj.1 (by have := Decidable.not_not.1 w1; show g.toNat = 92; omega)
              rw [if_neg (fun z => z ⟨v1, hg0.symm.trans w1⟩)] at hX
              refine sA [] rfl ?_; refine ev_arith rfl rfl rfl rfl rfl (by simp only [lowK, hiK]; omega) ?_; refine sC [] rfl ?_
              by_cases v2 : q + 7 < t.length
              case neg =>
                have hx := hX _ (if_pos (fun z => v2 z.1))
                have hE := no_ hx
                rw [show decide ((t.length : Int) ≤ (q : Int) + 1 + 5 + 1) = true from decide_eq_true (by omega)]
                refine sA [] rfl ?_; refine ev_arith rfl rfl rfl rfl rfl (by simp only [lowK, hiK]; omega) ?_; refine sA [] rfl ?_
                exact ret3 (.inr rfl) rfl rfl rfl rfl ⟨bad hE (by first | omega | (simp only; omega)), hO.2.2⟩
              rw [show decide ((t.length : Int) ≤ (q : Int) + 1 + 5 + 1) = false from decide_eq_false (by omega)]
              obtain ⟨k, hk0⟩ : ∃ g, g = t.getD (q + 7) 0 := ⟨_, rfl⟩
              refine sA [] rfl ?_; refine ev_arith rfl rfl rfl rfl rfl (by simp only [lowK, hiK]; omega) ?_; refine ev_index rfl rfl tabOk rfl rfl rfl (by omega) (by omega) ?_; refine sD [] rfl ?_; refine sD [] rfl ?_; refine sD [] rfl ?_
              rw [show ((q : Int) + 1 + 5 + 1).toNat = q + 7 by omega, ← hk0]
              refine ev_condD rfl (fun w2 => ?_) (fun w2 => ?_)
              · have hx := hX _ (if_pos (fun z => w2 (by rw [hk0, show t.getD (q + 7) 0 = 117 from z.2]; rfl)))
                have hE := no_ hx
                refine sA [] rfl ?_; refine ev_arith rfl rfl rfl rfl rfl (by simp only [lowK, hiK]; omega) ?_; refine sA [] rfl ?_
                exact ret3 (.inr rfl) rfl rfl rfl rfl ⟨bad hE (by first | omega | (simp only; omega)), hO.2.2⟩
              have w2 : k = 117 := UInt8.toNat_inj.1 (by have := Decidable.not_not.1 w2; show k.toNat = 117; omega)
              rw [if_neg (fun z => z ⟨v2, hk0.symm.trans w2⟩)] at hX
              have hga : (four t true (q + 1 + 7)).1 = true → (four t true (q + 1 + 7)).2.2 = q + 8 + 4 := four_at (t := t) (low := true) 4 0 0 (q + 8)
              have hgl : (four t true (q + 1 + 7)).2.2 ≤ t.length := four_le (t := t) (low := true) 4 0 0 (q + 1 + 7) (by omega)
              have hgd := fun z => (four_low (t := t) (low := true) (q := q + 1 + 7) z).2 rfl
              refine sA [] rfl ?_; refine ev_arith rfl rfl rfl rfl rfl (by simp only [lowK, hiK]; omega) ?_
              rw [show ((q : Int) + 1 + 5 + 2) = ((q + 1 + 7 : Nat) : Int) by omega]
              refine ev_call rfl rfl rfl (refFour t true (q + 1 + 7) _ (by omega) (by omega)) (fun r w5 hr => ?_)
              obtain ⟨rfl, rfl⟩ := hr
              obtain ⟨g1, d1⟩ : ∃ x, x = (four t true (q + 1 + 7)).1 := ⟨_, rfl⟩
              obtain ⟨g2, d2⟩ : ∃ x, x = (four t true (q + 1 + 7)).2.1 := ⟨_, rfl⟩
              obtain ⟨g3, d3⟩ : ∃ x, x = (four t true (q + 1 + 7)).2.2 := ⟨_, rfl⟩
              rw [← d3] at hgl
              rw [← d1, ← d2, ← d3] at hX
              rw [← d1, ← d3] at hga
              rw [← d1, ← d2] at hgd
              rw [← d1, ← d2, ← d3]
              cases g1 with
              | false =>
                have hx := hX _ (if_pos rfl)
                have hE := no_ hx
                rw [if_neg Bool.false_ne_true]
                refine sA [] rfl ?_
                rw [show decide ((0 : Int) ≤ (g3 : Int)) = true from decide_eq_true (by omega)]
                skip
                exact ret3 (.inr rfl) rfl rfl rfl rfl ⟨bad hE (by first | omega | (simp only; omega)), hO.2.2⟩
              | true =>
                have hg3 := hga rfl
                have hgd := hgd rfl
                have hx := hX _ (if_neg (show ¬ true = false from fun z => Bool.noConfusion z))
                rw [if_pos rfl]
                refine sA [] rfl ?_; refine ev_arith rfl rfl rfl rfl rfl (by simp only [lowK, hiK]; omega) ?_; refine ev_arith rfl rfl rfl rfl rfl (by simp only [lowK, hiK]; omega) ?_; refine ev_arith rfl rfl rfl rfl rfl (by simp only [lowK, hiK]; omega) ?_; refine sA [] rfl ?_; refine ev_arith rfl rfl rfl rfl rfl (by simp only [lowK, hiK]; omega) ?_; refine ev_arith rfl rfl rfl rfl rfl (by simp only [lowK, hiK]; omega) ?_; refine sA [] rfl ?_; refine ev_arith rfl rfl rfl rfl rfl (by simp only [lowK, hiK]; omega) ?_; refine sA [] rfl ?_
                exact ev_out (65536 + 1024 * (f2 - 55296) + g2 - 56320, q + 12) ⟨hx, by simp only; omega, by simp only; omega, by simp only; omega, by simp only; omega, by simp only; omega, rfl⟩ ⟨rfl, rfl, by rw [show ((q : Int) + 1 + 5 + 6) = ((q + 12 : Nat) : Int) by omega]; rfl, rfl, trivial⟩
            · have hx := hX _ (if_neg fun z => s2 z.2)
              refine sA [] rfl ?_
              exact ev_out (f2, q + 6) ⟨hx, by simp only; omega, by simp only; omega, by simp only; omega, by simp only; omega, by simp only; omega, rfl⟩ ⟨rfl, rfl, by rw [show ((q : Int) + 1 + 5) = ((q + 6 : Nat) : Int) by omega]; rfl, rfl, trivial⟩
          · have hx := hX _ (if_neg fun z => s1 z.1)
            rw [show decide (55296 ≤ f2) = false from decide_eq_false s1]
            refine sA [] rfl ?_
            exact ev_out (f2, q + 6) ⟨hx, by simp only; omega, by simp only; omega, by simp only; omega, by simp only; omega, by simp only; omega, rfl⟩ ⟨rfl, rfl, by rw [show ((q : Int) + 1 + 5) = ((q + 6 : Nat) : Int) by omega]; rfl, rfl, trivial⟩
        · rintro ⟨r, x⟩ w5 ⟨hx, hr0, hr1, hr2, hx1, hx2, rfl⟩
          simp only at hx hr0 hr1 hr2 hx1 hx2
          rw [hx, if_pos rfl] at hE
          have hrl := rb_len r
          refine sA [] rfl ?_
          refine ev_call rfl rfl rfl (refEncoded r _ hr0 hr1 hr2) (fun u w6 hr => ?_)
          obtain ⟨⟨A, cc, rfl, hcs⟩, hf6⟩ := hr
          have hO := hO.fr hf6
          refine ev_append (z := .int .u8 0) (b := 1) (xs := out.map bv) (A := A) (m := (rb r).length) (c := cc) (news := (rb r).map bv) tabOk rfl rfl rfl inf5 rfl (by omega) rfl rfl hO.1 hcs (by rw [List.length_map, Nat.mul_one]) (fun u hu => by obtain ⟨b, _, rfl⟩ := List.mem_map.1 hu; rfl) (by omega) (fun v5 w7 ho5 hf5 hn5 => ?_)
          have hO := hO.app ho5 hf5 (NB.of hn5)
          refine sA [] rfl ?_
          exact ev_next (x, out ++ rb r, v5) (by simp only; omega) ⟨hx2, by simp only [List.length_append]; omega, ⟨f, by simp only; omega, hE⟩, hO⟩ ⟨rfl, rfl, rfl, trivial⟩
  · have hE := hE.trans (if_pos (by omega))
    refine sA [] rfl ?_
    exact ret3 (.inr rfl) rfl rfl rfl rfl ⟨bad hE (by first | omega | (simp only; omega)), hO.2.2⟩
end Go.Wk.YtpnhfkmgnkdleaaDoor
