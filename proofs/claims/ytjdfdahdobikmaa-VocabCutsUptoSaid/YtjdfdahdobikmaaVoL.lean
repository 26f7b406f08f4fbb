/-
  Chapter 13: what a text becomes says the text again; plain law.
-/
import Derived.Test.YtjdfdahdobikmaaVoK
set_option linter.unusedVariables false
namespace Go.Wk.Ytjdfdahdobikmaa
open Go Go.Wk Go.Proofs

theorem enc_code {v : VV} {s : List UInt8} (h : (v.enc s).2.2 = 0) : v.chk.2 = 0 ∧ (∀ b ∈ s, v.byte b < v.texts.length) ∧ (v.enc s).1 = v.red (v.bytes s) := by
  unfold VV.enc at h ⊢
  by_cases h1 : v.chk.2 ≠ 0
  · rw [if_pos h1] at h; exact absurd h h1
  · rw [if_neg h1] at h ⊢
    by_cases h2 : v.bp s < s.length
    · rw [if_pos h2] at h; cases h
    · rw [if_neg h2]
      refine ⟨by omega, fun b hb => ?_, rfl⟩
      obtain ⟨j, hj, rfl⟩ := List.getElem_of_mem hb
      have := (fstP_spec (fun i => ¬ v.byte (s.getD i 0) < v.texts.length) s.length 0).2.2.1 j (Nat.zero_le _) (by unfold VV.bp at h2; omega)
      have := Decidable.not_not.1 this
      rwa [List.getD_eq_getElem?_getD, List.getElem?_eq_getElem hj] at this
theorem enc_err {v : VV} {s : List UInt8} (h : (v.enc s).2.2 ≠ 0) : (v.enc s).1 = [] := by
  unfold VV.enc at h ⊢
  by_cases h1 : v.chk.2 ≠ 0
  · rw [if_pos h1]
  · rw [if_neg h1] at h ⊢
    by_cases h2 : v.bp s < s.length
    · rw [if_pos h2]
    · rw [if_neg h2] at h; exact absurd rfl h
theorem split2 {l : List Int} {p : Nat} (h : p + 1 < l.length) : l = l.take p ++ ([l.getD p 0, l.getD (p + 1) 0] ++ l.drop (p + 2)) := by
  have h1 : l.drop p = l[p] :: l.drop (p + 1) := List.drop_eq_getElem_cons (by omega)
  have h2 : l.drop (p + 1) = l[p + 1] :: l.drop (p + 2) := List.drop_eq_getElem_cons h
  have h3 : l.getD p 0 = l[p] := by rw [List.getD_eq_getElem?_getD, List.getElem?_eq_getElem (by omega)]; rfl
  have h4 : l.getD (p + 1) 0 = l[p + 1] := by rw [List.getD_eq_getElem?_getD, List.getElem?_eq_getElem h]; rfl
  rw [h3, h4]
  conv => lhs; rw [← List.take_append_drop p l, h1, h2]
  rfl
theorem nxt_tok {v : VV} (hok : v.ok) {l : List Int} (h : v.rk l < v.merges.length) (ht : ∀ t ∈ l, v.tok t) : ∀ t ∈ v.nxt l, v.tok t := by
  intro t hm
  unfold VV.nxt at hm
  rw [List.append_assoc, List.mem_append, List.mem_append] at hm
  rcases hm with hm | hm | hm
  · exact ht t (List.mem_of_mem_take hm)
  · rw [List.mem_singleton] at hm; subst hm; exact (hok.merges _ h).2.2.1
  · exact ht t (List.mem_of_mem_drop hm)
theorem nxt_say {v : VV} (hok : v.ok) {l : List Int} (h : v.rk l < v.merges.length) : v.say (v.nxt l) = v.say l := by
  have hm := at_spec (rk_spec h)
  conv => rhs; rw [split2 hm.1, hm.2.1, hm.2.2]
  unfold VV.nxt
  rw [say_append, say_append, say_append, say_append, List.append_assoc]
  congr 2
  have h4 := (hok.merges _ h).2.2.2.1
  show (v.t _ ++ []) = (v.t _ ++ (v.t _ ++ []))
  rw [List.append_nil, List.append_nil, h4]
theorem red_tok {v : VV} (hok : v.ok) {l : List Int} (ht : ∀ t ∈ l, v.tok t) : ∀ t ∈ v.red l, v.tok t :=
  (red_ind (φ := fun l => ∀ t ∈ l, v.tok t) (fun l h hl => nxt_tok hok h hl) l ht).1
theorem red_say {v : VV} (hok : v.ok) (l : List Int) : v.say (v.red l) = v.say l :=
  (red_ind (φ := fun x => v.say x = v.say l) (fun x h hl => (nxt_say hok h).trans hl) l rfl).1
theorem red_end {v : VV} (l : List Int) : ¬ v.rk (v.red l) < v.merges.length :=
  (red_ind (φ := fun _ => True) (fun _ _ _ => trivial) l trivial).2
theorem bytes_tok {v : VV} (hok : v.ok) {s : List UInt8} (h : ∀ b ∈ s, v.byte b < v.texts.length) : ∀ t ∈ v.bytes s, v.tok t := by
  intro t ht
  obtain ⟨b, hb, rfl⟩ := List.mem_map.1 ht
  have := byte_pos hok (h b hb)
  have := h b hb
  exact ⟨by omega, by omega⟩
theorem bytes_say {v : VV} : ∀ {s : List UInt8}, (∀ b ∈ s, v.byte b < v.texts.length) → v.say (v.bytes s) = s
  | [], _ => rfl
  | b :: s, h => by
    have ih := bytes_say (v := v) (s := s) fun c hc => h c (List.mem_cons_of_mem _ hc)
    unfold VV.say VV.bytes at ih ⊢
    rw [List.map_cons, List.flatMap_cons, ih]
    have := byte_at (h b (List.mem_cons_self ..))
    rw [show ((v.byte b : Nat) : Int).toNat = v.byte b from rfl, this]
    rfl
/-- tokens that all are tokens say what they say -/
theorem dec_mem {v : VV} (h : v.chk.2 = 0) {l : List Int} (hl : ∀ t ∈ l, v.inR t) : v.dec l = (v.say l, 0, 0) :=
  dec_all h fun j hj => by
    rw [List.getD_eq_getElem?_getD, List.getElem?_eq_getElem hj]
    exact hl _ (List.getElem_mem hj)
theorem dec_code {v : VV} {l : List Int} (h : (v.dec l).2.2 = 0) : v.chk.2 = 0 ∧ ∀ t ∈ l, v.inR t := by
  unfold VV.dec at h
  by_cases h1 : v.chk.2 ≠ 0
  · rw [if_pos h1] at h; exact absurd h h1
  · rw [if_neg h1] at h
    by_cases h2 : v.tp l < l.length
    · rw [if_pos h2] at h; cases h
    · refine ⟨by omega, fun b hb => ?_⟩
      obtain ⟨j, hj, rfl⟩ := List.getElem_of_mem hb
      have := (fstP_spec (fun i => ¬ v.inR (l.getD i 0)) l.length 0).2.2.1 j (Nat.zero_le _) (by unfold VV.tp at h2; omega)
      have := Decidable.not_not.1 this
      rwa [List.getD_eq_getElem?_getD, List.getElem?_eq_getElem hj] at this
theorem dec_err {v : VV} {l : List Int} (h : (v.dec l).2.2 ≠ 0) : (v.dec l).1 = [] := by
  unfold VV.dec at h ⊢
  by_cases h1 : v.chk.2 ≠ 0
  · rw [if_pos h1]
  · rw [if_neg h1] at h ⊢
    by_cases h2 : v.tp l < l.length
    · rw [if_pos h2]
    · rw [if_neg h2] at h; exact absurd rfl h
theorem dec_enc {v : VV} {s : List UInt8} (h : (v.enc s).2.2 = 0) : v.dec (v.enc s).1 = (s, 0, 0) := by
  obtain ⟨h1, h2, h3⟩ := enc_code h
  have hok := chk_ok h1
  have ht := red_tok hok (bytes_tok hok h2)
  rw [h3, dec_mem h1 (fun t hm => ⟨by have := (ht t hm).1; omega, (ht t hm).2⟩), red_say hok, bytes_say h2]
theorem enc_tok {v : VV} {s : List UInt8} (h : (v.enc s).2.2 = 0) : ∀ t ∈ (v.enc s).1, v.tok t := by
  obtain ⟨h1, h2, h3⟩ := enc_code h
  have hok := chk_ok h1
  rw [h3]
  exact red_tok hok (bytes_tok hok h2)
theorem enc_end {v : VV} {s : List UInt8} (h : (v.enc s).2.2 = 0) {r : Nat} (hr : r < v.merges.length) (i : Nat) : ¬ v.mAt (v.enc s).1 r i := by
  obtain ⟨h1, h2, h3⟩ := enc_code h
  rw [h3]
  intro hm
  have h4 := red_end (v := v) (v.bytes s)
  by_cases h5 : v.at (v.red (v.bytes s)) r < (v.red (v.bytes s)).length
  · refine h4 ?_
    by_cases h6 : v.rk (v.red (v.bytes s)) ≤ r
    · omega
    · exact absurd h5 (rk_first (by omega))
  · have h7 := (fstP_spec (v.mAt (v.red (v.bytes s)) r) (v.red (v.bytes s)).length 0).2.2.1 i (Nat.zero_le _) (by have := hm.1; unfold VV.at at h5; omega)
    exact h7 hm
theorem dec_join {v : VV} {a b : List Int} : ((v.dec a).2.2 = 0 ∧ (v.dec b).2.2 = 0 → v.dec (a ++ b) = ((v.dec a).1 ++ (v.dec b).1, 0, 0)) ∧ (¬ ((v.dec a).2.2 = 0 ∧ (v.dec b).2.2 = 0) → (v.dec (a ++ b)).2.2 ≠ 0) := by
  constructor
  · rintro ⟨ha, hb⟩
    obtain ⟨h1, h2⟩ := dec_code ha
    obtain ⟨_, h3⟩ := dec_code hb
    rw [dec_mem h1 (l := a ++ b) (fun t ht => (List.mem_append.1 ht).elim (h2 t) (h3 t)), dec_mem h1 h2, dec_mem h1 h3, say_append]
  · intro h h0
    obtain ⟨h1, h2⟩ := dec_code h0
    refine h ⟨?_, ?_⟩
    · rw [dec_mem h1 fun t ht => h2 t (List.mem_append_left _ ht)]
    · rw [dec_mem h1 fun t ht => h2 t (List.mem_append_right _ ht)]
theorem dec_len (v : VV) (l : List Int) : (v.dec l).1.length ≤ 64 * l.length := by
  by_cases h : (v.dec l).2.2 = 0
  · obtain ⟨h1, h2⟩ := dec_code h
    rw [dec_mem h1 h2]
    exact say_len (chk_ok h1) l
  · rw [dec_err h]; simp
end Go.Wk.Ytjdfdahdobikmaa
