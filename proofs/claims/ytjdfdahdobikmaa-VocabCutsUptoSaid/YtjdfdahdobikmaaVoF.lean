/-
  Chapter 13: texts as tokens, tokens as texts: what is computed.
-/
import Derived.Test.YtjdfdahdobikmaaVoE
set_option linter.unusedVariables false
namespace Go.Wk.Ytjdfdahdobikmaa
open Go Go.Wk Go.Proofs

/-- the token of a byte; the vocabulary's length: none -/
def VV.byte (v : VV) (b : UInt8) : Nat := fstP (fun k => v.t k = [b]) 0 v.texts.length
theorem byte_le (v : VV) (b : UInt8) : v.byte b ≤ v.texts.length := by have := (fstP_spec (fun k => v.t k = [b]) v.texts.length 0).2.1; unfold VV.byte; omega
theorem byte_at {v : VV} {b : UInt8} (h : v.byte b < v.texts.length) : v.t (v.byte b) = [b] := (fstP_spec (fun k => v.t k = [b]) v.texts.length 0).2.2.2 (by unfold VV.byte at h; omega)
theorem byte_no {v : VV} {b : UInt8} {k : Nat} (h : k < v.byte b) : v.t k ≠ [b] := (fstP_spec (fun k => v.t k = [b]) v.texts.length 0).2.2.1 k (Nat.zero_le _) h
theorem byte_is {v : VV} (hok : v.ok) {b : UInt8} {k : Nat} (hk : k < v.texts.length) (h : v.t k = [b]) : v.byte b = k := by
  rcases Nat.lt_trichotomy (v.byte b) k with h1 | h1 | h1
  · exact absurd (by rw [byte_at (by omega), h]) ((hok.texts k hk).1 _ h1)
  · exact h1
  · exact absurd h (byte_no h1)
theorem byte_none {v : VV} {b : UInt8} (h : ∀ k, k < v.texts.length → v.t k ≠ [b]) : v.byte b = v.texts.length := fstP_no h
theorem byte_pos {v : VV} (hok : v.ok) {b : UInt8} (h : v.byte b < v.texts.length) : 0 < v.byte b := by
  have h1 := byte_at h
  by_cases e : v.byte b = 0
  · have := ((hok.texts _ h).2.1).2 e
    rw [this] at h1; cases h1
  · omega
/-- the bytes of a text as tokens; the first byte that is none -/
def VV.bytes (v : VV) (s : List UInt8) : List Int := s.map fun b => (v.byte b : Int)
def VV.bp (v : VV) (s : List UInt8) : Nat := fstP (fun i => ¬ v.byte (s.getD i 0) < v.texts.length) 0 s.length

def VV.mAt (v : VV) (l : List Int) (r i : Nat) : Prop := i + 1 < l.length ∧ l.getD i 0 = (v.m r).1 ∧ l.getD (i + 1) 0 = (v.m r).2.1
instance (v : VV) (l : List Int) (r i : Nat) : Decidable (v.mAt l r i) := by unfold VV.mAt; infer_instance
def VV.at (v : VV) (l : List Int) (r : Nat) : Nat := fstP (v.mAt l r) 0 l.length
def VV.rk (v : VV) (l : List Int) : Nat := fstP (fun r => v.at l r < l.length) 0 v.merges.length
theorem at_is {v : VV} {l : List Int} {r i : Nat} (h : v.mAt l r i) (hno : ∀ j, j < i → ¬ v.mAt l r j) : v.at l r = i := fstP_at (by have := h.1; omega) hno h
theorem at_no {v : VV} {l : List Int} {r : Nat} (hno : ∀ j, j < l.length → ¬ v.mAt l r j) : v.at l r = l.length := fstP_no hno
theorem at_spec {v : VV} {l : List Int} {r : Nat} (h : v.at l r < l.length) : v.mAt l r (v.at l r) := (fstP_spec (v.mAt l r) l.length 0).2.2.2 (by unfold VV.at at h; omega)
theorem at_first {v : VV} {l : List Int} {r j : Nat} (h : j < v.at l r) : ¬ v.mAt l r j := (fstP_spec (v.mAt l r) l.length 0).2.2.1 j (Nat.zero_le _) h
theorem rk_is {v : VV} {l : List Int} {r : Nat} (hr : r < v.merges.length) (h : v.at l r < l.length) (hno : ∀ j, j < r → ¬ v.at l j < l.length) : v.rk l = r := fstP_at hr hno h
theorem rk_no {v : VV} {l : List Int} (hno : ∀ j, j < v.merges.length → ¬ v.at l j < l.length) : v.rk l = v.merges.length := fstP_no hno
theorem rk_spec {v : VV} {l : List Int} (h : v.rk l < v.merges.length) : v.at l (v.rk l) < l.length := (fstP_spec (fun r => v.at l r < l.length) v.merges.length 0).2.2.2 (by unfold VV.rk at h; omega)
theorem rk_first {v : VV} {l : List Int} {j : Nat} (h : j < v.rk l) : ¬ v.at l j < l.length := (fstP_spec (fun r => v.at l r < l.length) v.merges.length 0).2.2.1 j (Nat.zero_le _) h
def VV.nxt (v : VV) (l : List Int) : List Int := l.take (v.at l (v.rk l)) ++ [(v.m (v.rk l)).2.2] ++ l.drop (v.at l (v.rk l) + 2)
theorem nxt_len {v : VV} {l : List Int} (h : v.rk l < v.merges.length) : (v.nxt l).length + 1 = l.length := by
  have := (at_spec (rk_spec h)).1
  unfold VV.nxt
  simp
  omega
/-- merged as long as it goes -/
def VV.red (v : VV) (l : List Int) : List Int := if h : v.rk l < v.merges.length then v.red (v.nxt l) else l
termination_by l.length
decreasing_by have := nxt_len h; omega
theorem red_yes {v : VV} {l : List Int} (h : v.rk l < v.merges.length) : v.red l = v.red (v.nxt l) := by rw [VV.red, dif_pos h]
theorem red_no {v : VV} {l : List Int} (h : ¬ v.rk l < v.merges.length) : v.red l = l := by rw [VV.red, dif_neg h]
theorem red_ind {v : VV} {φ : List Int → Prop} (step : ∀ l, v.rk l < v.merges.length → φ l → φ (v.nxt l)) : ∀ l, φ l → φ (v.red l) ∧ ¬ v.rk (v.red l) < v.merges.length := by
  intro l
  generalize hn : l.length = n
  induction n using Nat.strongRecOn generalizing l with
  | _ n ih =>
    intro h
    by_cases hr : v.rk l < v.merges.length
    · rw [red_yes hr]
      exact ih _ (by have := nxt_len hr; omega) _ rfl (step l hr h)
    · rw [red_no hr]; exact ⟨h, hr⟩
theorem red_len {v : VV} (l : List Int) : (v.red l).length ≤ l.length :=
  (red_ind (φ := fun x => x.length ≤ l.length) (fun x hx h => by have := nxt_len hx; omega) l (Nat.le_refl _)).1
/-- a text as tokens: the tokens, the place and the number of what is wrong -/
def VV.enc (v : VV) (s : List UInt8) : List Int × Nat × Nat := if v.chk.2 ≠ 0 then ([], v.chk.1, v.chk.2) else if v.bp s < s.length then ([], v.bp s, 132) else (v.red (v.bytes s), 0, 0)
theorem enc_bad {v : VV} {s : List UInt8} (h : v.chk.2 ≠ 0) : v.enc s = ([], v.chk.1, v.chk.2) := by unfold VV.enc; rw [if_pos h]
theorem enc_byte {v : VV} {s : List UInt8} (h : v.chk.2 = 0) {i : Nat} (hi : i < s.length) (hall : ∀ j, j < i → v.byte (s.getD j 0) < v.texts.length) (hb : ¬ v.byte (s.getD i 0) < v.texts.length) : v.enc s = ([], i, 132) := by
  have : v.bp s = i := fstP_at hi (fun j hj => Decidable.not_not.2 (hall j hj)) hb
  unfold VV.enc; rw [if_neg (by omega), this, if_pos hi]
theorem enc_all {v : VV} {s : List UInt8} (h : v.chk.2 = 0) (hall : ∀ j, j < s.length → v.byte (s.getD j 0) < v.texts.length) : v.enc s = (v.red (v.bytes s), 0, 0) := by
  have : v.bp s = s.length := fstP_no (fun j hj => Decidable.not_not.2 (hall j hj))
  unfold VV.enc; rw [if_neg (by omega), this, if_neg (by omega)]
theorem enc_len (v : VV) (s : List UInt8) : (v.enc s).1.length ≤ s.length := by
  unfold VV.enc
  split
  · simp
  split
  · simp
  · have := red_len (v := v) (v.bytes s)
    unfold VV.bytes at this ⊢
    rw [List.length_map] at this
    exact this
theorem bytes_take {v : VV} {s : List UInt8} {k : Nat} (h : k < s.length) : v.bytes (s.take (k + 1)) = v.bytes (s.take k) ++ [(v.byte (s.getD k 0) : Int)] := by
  unfold VV.bytes
  rw [List.take_add_one, List.getElem?_eq_getElem h, List.getD_eq_getElem?_getD, List.getElem?_eq_getElem h, List.map_append]
  rfl

/-- what tokens say -/
def VV.say (v : VV) (l : List Int) : List UInt8 := l.flatMap fun t => v.t t.toNat
def VV.inR (v : VV) (t : Int) : Prop := 0 ≤ t ∧ t < v.texts.length
instance (v : VV) (t : Int) : Decidable (v.inR t) := by unfold VV.inR; infer_instance
def VV.tp (v : VV) (l : List Int) : Nat := fstP (fun i => ¬ v.inR (l.getD i 0)) 0 l.length
def VV.dec (v : VV) (l : List Int) : List UInt8 × Nat × Nat := if v.chk.2 ≠ 0 then ([], v.chk.1, v.chk.2) else if v.tp l < l.length then ([], v.tp l, 133) else (v.say l, 0, 0)
theorem dec_bad {v : VV} {l : List Int} (h : v.chk.2 ≠ 0) : v.dec l = ([], v.chk.1, v.chk.2) := by unfold VV.dec; rw [if_pos h]
theorem dec_tok {v : VV} {l : List Int} (h : v.chk.2 = 0) {i : Nat} (hi : i < l.length) (hall : ∀ j, j < i → v.inR (l.getD j 0)) (hb : ¬ v.inR (l.getD i 0)) : v.dec l = ([], i, 133) := by
  have : v.tp l = i := fstP_at hi (fun j hj => Decidable.not_not.2 (hall j hj)) hb
  unfold VV.dec; rw [if_neg (by omega), this, if_pos hi]
theorem dec_all {v : VV} {l : List Int} (h : v.chk.2 = 0) (hall : ∀ j, j < l.length → v.inR (l.getD j 0)) : v.dec l = (v.say l, 0, 0) := by
  have : v.tp l = l.length := fstP_no (fun j hj => Decidable.not_not.2 (hall j hj))
  unfold VV.dec; rw [if_neg (by omega), this, if_neg (by omega)]
theorem say_take {v : VV} {l : List Int} {k : Nat} (h : k < l.length) : v.say (l.take (k + 1)) = v.say (l.take k) ++ v.t (l.getD k 0).toNat := by
  unfold VV.say
  rw [List.take_add_one, List.getElem?_eq_getElem h, List.getD_eq_getElem?_getD, List.getElem?_eq_getElem h, List.flatMap_append]
  simp
theorem say_append (v : VV) (a b : List Int) : v.say (a ++ b) = v.say a ++ v.say b := by unfold VV.say; rw [List.flatMap_append]
theorem say_len {v : VV} (hok : v.ok) : ∀ l : List Int, (v.say l).length ≤ 64 * l.length
  | [] => by simp [VV.say]
  | t :: l => by
    have ih := say_len hok l
    have h1 : (v.t t.toNat).length ≤ 64 := by
      by_cases h : t.toNat < v.texts.length
      · exact (hok.texts _ h).2.2
      · have : v.t t.toNat = [] := by unfold VV.t; rw [List.getD_eq_getElem?_getD, List.getElem?_eq_none (by omega)]; rfl
        rw [this]; simp
    unfold VV.say at ih ⊢
    rw [List.flatMap_cons, List.length_append, List.length_cons]
    omega
end Go.Wk.Ytjdfdahdobikmaa
