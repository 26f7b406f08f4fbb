/-
  The walks of chapter 14: the document's characters.
-/
import Derived.Test.YtpnhfkmgnkdleaaDoorStP
import Derived.Test.YtpnhfkmgnkdleaaDoorTab
import Derived.Test.YtpnhfkmgnkdleaaDoorMevs
set_option linter.unusedVariables false
namespace Go.Wk.YtpnhfkmgnkdleaaDoor
open Go Go.Wk Go.Proofs

theorem mixed : Tryd.prog.follows .mixedOrders = true := by kernel_rfl

set_option maxRecDepth 40000 in
theorem refSiz (b : UInt8) (w : World) : CallsF Tryd.prog 49 [bv b] w fun r w' => r = .int .i64 (siz b) ∧ w' = w := by
  have hb := b.toNat_lt
  refine callsF Tryd.func49 rfl rfl (by decide) rfl ?_
  refine sC [] rfl ?_; refine sC [] rfl ?_; refine sD [] rfl ?_; refine sD [] rfl ?_
  have hi : b.toNat < 128 ∨ (128 ≤ b.toNat ∧ b.toNat < 194) ∨ (194 ≤ b.toNat ∧ b.toNat ≤ 223) ∨ (224 ≤ b.toNat ∧ b.toNat ≤ 239) ∨ (240 ≤ b.toNat ∧ b.toNat ≤ 244) ∨ 245 ≤ b.toNat := by omega
  have fin : ∀ x : Nat, x = siz b → (Value.int .i64 (x : Int) = Value.int .i64 (siz b : Int) ∧ w = w) := fun x h => ⟨by rw [h], rfl⟩
  rcases hi with hi | hi | hi | hi | hi | hi
  all_goals
    repeat (first
      | refine ev_guardD rfl rfl (fun h => ?_) (fun h => by omega)
      | refine ev_guardD rfl rfl (fun h => by omega) (fun h => ?_)
      | refine ev_condD rfl (fun h => ?_) (fun h => by omega)
      | refine ev_condD rfl (fun h => by omega) (fun h => ?_)
      | refine stepF_ok tabOk [] (m := 16) rfl ?_
      | refine stepF_ok tabOk [] (m := 3) rfl ?_
      | refine stepF_ok tabOk [] (m := 0) rfl ?_)
    refine ret1 (.inr rfl) rfl rfl (fin _ ?_)
    unfold siz
    (repeat' split) <;> omega

theorem refLater (f : UInt8) (p : Nat) (c : UInt8) (w : World) : CallsF Tryd.prog 74 [bv f, .int .i64 p, bv c] w fun r w' => r = .bool (decide (lat f p c)) ∧ w' = w := by
  refine callsF Tryd.func74 rfl rfl (by decide) rfl ?_
  refine sC [] rfl ?_; refine sC [] rfl ?_; refine sC [] rfl ?_; refine sD [] rfl ?_; refine sD [] rfl ?_; refine sD [] rfl ?_
  refine ev_join1 (α := Unit) (fun _ => [(2, bv c), (7, .int .u8 (latLo f p)), (8, .int .u8 (latHi f p))]) (fun _ w' => w' = w) ?_ ?_
  · refine ev_condD rfl (fun h1 => ?_) (fun h1 => ?_)
    · have hp : p = 1 := by omega
      subst hp
      refine sC [] rfl ?_; refine sC [] rfl ?_; refine sD [] rfl ?_; refine sD [] rfl ?_
      refine ev_condD rfl (fun h2 => ?_) (fun h2 => ?_)
      · have e1 : latLo f 1 = 160 := by unfold latLo; rw [if_pos rfl, if_pos (by omega)]
        have e2 : latHi f 1 = 191 := by unfold latHi; rw [if_pos rfl, if_neg (by omega), if_neg (by omega)]
        refine sA [] rfl ?_
        exact ev_out () rfl ⟨rfl, by rw [e1]; rfl, by rw [e2]; rfl, trivial⟩
      refine sC [] rfl ?_; refine sD [] rfl ?_
      refine ev_condD rfl (fun h3 => ?_) (fun h3 => ?_)
      · have e1 : latLo f 1 = 128 := by unfold latLo; rw [if_pos rfl, if_neg (by omega), if_neg (by omega)]
        have e2 : latHi f 1 = 159 := by unfold latHi; rw [if_pos rfl, if_pos (by omega)]
        refine sA [] rfl ?_
        exact ev_out () rfl ⟨rfl, by rw [e1]; rfl, by rw [e2]; rfl, trivial⟩
      refine sC [] rfl ?_; refine sD [] rfl ?_
      refine ev_condD rfl (fun h4 => ?_) (fun h4 => ?_)
      · have e1 : latLo f 1 = 144 := by unfold latLo; rw [if_pos rfl, if_neg (by omega), if_pos (by omega)]
        have e2 : latHi f 1 = 191 := by unfold latHi; rw [if_pos rfl, if_neg (by omega), if_neg (by omega)]
        refine sA [] rfl ?_
        exact ev_out () rfl ⟨rfl, by rw [e1]; rfl, by rw [e2]; rfl, trivial⟩
      refine sC [] rfl ?_; refine sD [] rfl ?_
      refine ev_condD rfl (fun h5 => ?_) (fun h5 => ?_)
      · have e1 : latLo f 1 = 128 := by unfold latLo; rw [if_pos rfl, if_neg (by omega), if_neg (by omega)]
        have e2 : latHi f 1 = 143 := by unfold latHi; rw [if_pos rfl, if_neg (by omega), if_pos (by omega)]
        refine sA [] rfl ?_
        exact ev_out () rfl ⟨rfl, by rw [e1]; rfl, by rw [e2]; rfl, trivial⟩
      · have e1 : latLo f 1 = 128 := by unfold latLo; rw [if_pos rfl, if_neg (by omega), if_neg (by omega)]
        have e2 : latHi f 1 = 191 := by unfold latHi; rw [if_pos rfl, if_neg (by omega), if_neg (by omega)]
        refine sA [] rfl ?_
        exact ev_out () rfl ⟨rfl, by rw [e1]; rfl, by rw [e2]; rfl, trivial⟩
    · have e1 : latLo f p = 128 := by unfold latLo; rw [if_neg (by omega)]
      have e2 : latHi f p = 191 := by unfold latHi; rw [if_neg (by omega)]
      refine sA [] rfl ?_
      exact ev_out () rfl ⟨rfl, by rw [e1]; rfl, by rw [e2]; rfl, trivial⟩
  rintro _ w' rfl
  generalize hlo : latLo f p = lo at *
  generalize hhi : latHi f p = hi at *
  refine sC [] rfl ?_; refine sD [] rfl ?_; refine sD [] rfl ?_
  refine ev_guardD rfl rfl (fun h1 => ?_) (fun h1 => ?_)
  · refine sA [] rfl ?_
    refine ret1 (.inr rfl) rfl rfl ⟨?_, rfl⟩
    congr 1
    apply decide_eq_decide.2
    unfold lat
    rw [hlo, hhi]; omega
  · refine sA [] rfl ?_
    refine ret1 (.inr rfl) rfl rfl ⟨?_, rfl⟩
    rw [decide_eq_false (by unfold lat; rw [hlo, hhi]; omega)]

theorem refFits (l : List UInt8) (w : World) (hs : l.length ≤ 9223372036854775806) : CallsF Tryd.prog 48 [.string (sOf l)] w fun r w' => r = .int .i64 (fits l) ∧ Fr no w w' := by
  refine callsF Tryd.func48 rfl rfl (by decide) rfl ?_
  refine sA [] rfl ?_
  refine ev_loop (α := Nat) (fun n => [(0, .string (sOf l)), (3, .int .i64 n)]) (fun n w' => n ≤ l.length ∧ (∀ j, j < n → goes l j) ∧ Fr no w w') (fun n => l.length - n) 0 ⟨rfl, rfl, trivial⟩ ⟨Nat.zero_le _, fun j hj => by omega, Fr.refl _ _⟩ ?_
  rintro n w1 ⟨hn, hg, hf⟩
  have out : ∀ w2, Fr no w w2 → ¬ goes l n → True := fun _ _ _ => trivial
  refine sA [] rfl ?_
  refine ev_draw mixed (by kernel_rfl) ?_
  refine qC rfl ?_; refine qD rfl ?_
  refine q_splitD 8 rfl (fun h1 => ?_) (fun h1 => ?_)
  · refine qA rfl ?_; refine q_index rfl rfl tabOk rfl rfl rfl (by omega) (by omega) ?_
    refine q_call rfl rfl rfl (fun w' hw' => (refSiz _ w').mono fun u w'' z => ⟨z.1, by rw [z.2]; exact hw'⟩) ?_
    refine qD rfl ?_; refine qD rfl ?_; refine qD rfl ?_
    refine q_splitD 15 rfl (fun h2 => ?_) (fun h2 => ?_)
    · have h2 : (n : Int) < ((siz (l.getD 0 0) : Nat) : Int) := h2
      refine qD rfl ?_; refine qD rfl ?_; refine qD rfl ?_
      refine q_splitD 18 rfl (fun h3 => ?_) (fun h3 => ?_)
      · refine qA rfl ?_
        refine q_end fun w2 hf2 => ?_
        have hgo : goes l n := ⟨by omega, by omega, .inl (by omega)⟩
        refine sA [] rfl ?_; refine ev_arith rfl rfl rfl rfl rfl (by simp only [lowK, hiK]; omega) ?_; refine sA [] rfl ?_
        exact ev_next (n + 1) (by omega) ⟨by omega, fun j hj => by
          by_cases h : j = n
          · subst h; exact hgo
          · exact hg j (by omega), hf.tr hf2⟩ ⟨rfl, rfl, trivial⟩
      · refine qA rfl ?_; refine q_index rfl rfl tabOk rfl rfl rfl (by omega) (by omega) ?_; refine qA rfl ?_; refine q_index rfl rfl tabOk rfl rfl rfl (by omega) (by omega) ?_
        refine q_call rfl rfl rfl (fun w' hw' => (refLater _ n _ w').mono fun u w'' z => ⟨z.1, by rw [z.2]; exact hw'⟩) ?_
        refine qA rfl ?_
        refine q_end fun w2 hf2 => ?_
        refine ev_condD rfl (fun h4 => ?_) (fun h4 => ?_)
        · have hgo : goes l n := ⟨by omega, by omega, .inr h4⟩
          refine sA [] rfl ?_; refine ev_arith rfl rfl rfl rfl rfl (by simp only [lowK, hiK]; omega) ?_; refine sA [] rfl ?_
          exact ev_next (n + 1) (by omega) ⟨by omega, fun j hj => by
            by_cases h : j = n
            · subst h; exact hgo
            · exact hg j (by omega), hf.tr hf2⟩ ⟨rfl, rfl, trivial⟩
        · have e := fits_of hg (fun h => by rcases h.2.2 with h | h <;> first | omega | exact h4 h)
          refine sA [] rfl ?_
          exact ret1 (.inr rfl) rfl rfl ⟨by rw [e], hf.tr hf2⟩
    · have h2 : ¬ (n : Int) < ((siz (l.getD 0 0) : Nat) : Int) := h2
      refine qA rfl ?_
      refine q_end fun w2 hf2 => ?_
      have e := fits_of hg (fun h => by have := h.2.1; omega)
      refine sA [] rfl ?_
      exact ret1 (.inr rfl) rfl rfl ⟨by rw [e], hf.tr hf2⟩
  · refine qA rfl ?_
    refine q_end fun w2 hf2 => ?_
    have e := fits_of hg (fun h => by have := h.1; omega)
    refine sA [] rfl ?_
    exact ret1 (.inr rfl) rfl rfl ⟨by rw [e], hf.tr hf2⟩
end Go.Wk.YtpnhfkmgnkdleaaDoor
