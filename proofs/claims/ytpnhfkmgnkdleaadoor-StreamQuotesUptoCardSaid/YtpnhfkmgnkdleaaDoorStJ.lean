/-
  The walks of chapter 14: a stream ended; a stream made.
-/
import Derived.Test.YtpnhfkmgnkdleaaDoorStI
set_option linter.unusedVariables false
namespace Go.Wk.YtpnhfkmgnkdleaaDoor
open Go Go.Wk Go.Proofs Go.Lib

theorem fresh_set {w w1 w2 : World} {b : Nat} (h : Fr no w w1) (hb : w.heap.size ≤ b) (h2 : Fr (fun c => c = b) w1 w2) : Fr no w w2 := h.trans h2 fun c hc e => by omega
theorem cell_lt {w : World} {b o : Nat} {v : Value} (h : w.cell? ⟨b, o, none⟩ = some v) : b < w.heap.size := by
  by_cases hb : b < w.heap.size
  · exact hb
  · rw [World.cell?, Array.getElem?_eq_none (Nat.le_of_not_lt hb)] at h; cases h
theorem UT.lt {w : World} (h : UT w) : 1 < w.heap.size := cell_lt (h.2 0 (by omega)).1
theorem own_one {w : World} {e : TypeId} {sz n : Nat} {v : Value} {xs : List Value} (h : Own w e sz v n xs) : v.oneCell' = true := by
  rcases h.2 with ⟨rfl, _⟩ | ⟨g, cap, cur, rfl, _⟩ <;> rfl
/-- what ending does -/
def EndR (S S' : SV) (r : List UInt8) : Prop :=
  if S.done || S.ended then S' = S ∧ r = [] else r = clean S.raw ∧ S' = { S with raw := [], out := S.out ++ clean S.raw, ended := true }
theorem sEnd (p : Nat) (v : Value) (S : SV) (w : World) (h : St w p v S) (hfit : S.fit) (hT : UT w) (hp0 : 1 < p) :
    CallsF Tryd.prog 27 [.pointer (some ⟨p, 0, none⟩)] w fun r w' => (∃ S' out, r = sv out ∧ EndR S S' out ∧ St w' p v S') ∧ Fr (one p) w w' := by
  obtain ⟨hst, hsl, hraw, hout⟩ := hfit
  have c4 : w.cell? ⟨p, 4, none⟩ = some (.bool S.done) := h.1.cell rfl
  have c5 : w.cell? ⟨p, 5, none⟩ = some (.bool S.ended) := h.1.cell rfl
  have over : (S.done || S.ended) = true → ∀ w', w' = w → (∃ S' out, sv [] = sv out ∧ EndR S S' out ∧ St w' p v S') ∧ Fr (one p) w w' := fun hd w' e => by
    subst e
    exact ⟨⟨S, [], rfl, by unfold EndR; rw [if_pos hd]; exact ⟨rfl, rfl⟩, h⟩, Fr.refl _ _⟩
  refine callsF Tryd.func27 rfl rfl (by decide) rfl ?_
  cases hd : S.done with
  | true =>
    rw [hd] at c4
    refine sA [] rfl ?_; refine ev_load rfl rfl tabOk rfl rfl ‹_› ?_; refine sA [] rfl ?_
    exact ret1 (.inr rfl) rfl rfl (over (by rw [hd]; rfl) _ rfl)
  | false =>
  rw [hd] at c4
  cases he : S.ended with
  | true =>
    rw [he] at c5
    refine sA [] rfl ?_; refine ev_load rfl rfl tabOk rfl rfl ‹_› ?_; refine sA [] rfl ?_; refine ev_load rfl rfl tabOk rfl rfl ‹_› ?_; refine sA [] rfl ?_
    exact ret1 (.inr rfl) rfl rfl (over (by rw [hd, he]; rfl) _ rfl)
  | false =>
  rw [he] at c5
  have hno : ¬ (S.done || S.ended) = true := by rw [hd, he]; simp
  refine sA [] rfl ?_; refine ev_load rfl rfl tabOk rfl rfl ‹_› ?_; refine sA [] rfl ?_; refine ev_load rfl rfl tabOk rfl rfl ‹_› ?_; refine sA [] rfl ?_
  refine ev_store tabOk rfl rfl rfl rfl rfl rfl h.1 rfl (fun w3 hb3 hf3 => ?_)
  have hS3 : St w3 p v { S with ended := true } := ⟨hb3, h.2.1.fr hf3 (fun q hq e => h.2.2 (by rw [hq]; exact congrArg some e)), h.2.2⟩
  have hT3 := hT.fr hf3 (fun e => by have : 0 = p := e; omega) (fun e => by have : 1 = p := e; omega)
  have c1 : w3.cell? ⟨p, 1, none⟩ = some (sv S.raw) := hS3.1.cell rfl
  refine sA [] rfl ?_; refine ev_load rfl rfl tabOk rfl rfl ‹_› ?_; refine sA [] rfl ?_
  refine ev_call rfl rfl rfl (sLet p v _ S.raw.length _ hS3 (Nat.le_refl _) (by simp only; omega) (by simp only; omega) hT3 hp0) (fun q w8 hq => ?_)
  obtain ⟨rfl, hS8, hf8⟩ := hq
  refine sA [] rfl ?_
  refine ret1 (.inr rfl) rfl rfl ⟨⟨_, _, rfl, ?_, hS8⟩, hf3.trans hf8 (fun _ _ e => e)⟩
  unfold EndR
  rw [if_neg hno]
  simp only [SV.lets, List.take_length, List.drop_length, true_and]
theorem nEnd (w : World) : CallsF Tryd.prog 27 [.pointer none] w fun r w' => r = sv [] ∧ w' = w := by
  refine callsF Tryd.func27 rfl rfl (by decide) rfl ?_
  refine sA [] rfl ?_
  exact ret1 (.inr rfl) rfl rfl ⟨rfl, rfl⟩
theorem nFeed (s : List UInt8) (w : World) : CallsF Tryd.prog 23 [.pointer none, sv s] w fun r w' => r = sv [] ∧ w' = w := by
  refine callsF Tryd.func23 rfl rfl (by decide) rfl ?_
  refine sA [] rfl ?_
  exact ret1 (.inr rfl) rfl rfl ⟨rfl, rfl⟩

/-- a stop text as it must be -/
def okStop (x : List UInt8) : Prop := x ≠ [] ∧ x.length ≤ 64 ∧ clean x = x
instance (x : List UInt8) : Decidable (okStop x) := by unfold okStop; infer_instance
/-- what is wrong with stop texts -/
def chk (stops : List (List UInt8)) : Nat := if 16 < stops.length then 141 else if ∀ x ∈ stops, okStop x then 0 else 140
theorem chk_bad {stops : List (List UInt8)} (h : stops.length ≤ 16) {x : List UInt8} (hx : x ∈ stops) (hb : ¬ okStop x) : chk stops = 140 := by
  unfold chk; rw [if_neg (by omega), if_neg (fun h => hb (h x hx))]
theorem chk_ok {stops : List (List UInt8)} (h : stops.length ≤ 16) (hx : ∀ j, j < stops.length → okStop (stops.getD j [])) : chk stops = 0 := by
  unfold chk
  rw [if_neg (by omega), if_pos]
  intro x hm
  obtain ⟨j, hj, rfl⟩ := List.getElem_of_mem hm
  have := hx j hj
  rwa [List.getD_eq_getElem?_getD, List.getElem?_eq_getElem hj] at this
theorem chk_0 {stops : List (List UInt8)} (h : chk stops = 0) : stops.length ≤ 16 ∧ ∀ x ∈ stops, okStop x := by
  unfold chk at h
  split at h
  · omega
  · split at h
    · exact ⟨by omega, by assumption⟩
    · omega
theorem chk_cases (stops : List (List UInt8)) : chk stops = 0 ∨ chk stops = 140 ∨ chk stops = 141 := by
  unfold chk; (repeat' split) <;> simp
theorem strs_at {w : World} {A : Option Addr} {l : List (List UInt8)} (h : Cs w A (l.map sv)) {j : Nat} (hj : j < l.length) : ∃ g o, A = some ⟨g, o, none⟩ ∧ w.cell? ⟨g, o + (j : Int).toNat * 1, none⟩ = some (sv (l.getD j [])) := by
  obtain ⟨g, o, rfl, hc⟩ := h j _ (show (l.map sv)[j]? = some (sv (l.getD j [])) by simp [hj])
  exact ⟨g, o, rfl, by rw [Int.toNat_natCast, Nat.mul_one]; exact hc⟩
theorem getD_mem' {l : List (List UInt8)} {j : Nat} (hj : j < l.length) : l.getD j [] ∈ l := by
  rw [List.getD_eq_getElem?_getD, List.getElem?_eq_getElem hj]; exact List.getElem_mem hj

theorem refCheck (A : Option Addr) (c : Nat) (stops : List (List UInt8)) (w : World) (hA : Cs w A (stops.map sv)) (hn : stops.length ≤ 100000000) (hst : ∀ t ∈ stops, t.length ≤ 100000000) :
    CallsF Tryd.prog 19 [.slice A stops.length c] w fun r w' => r = .int .i64 (chk stops) ∧ Fr no w w' := by
  refine callsF Tryd.func19 rfl rfl (by decide) rfl ?_
  refine sC [] rfl ?_; refine sC [] rfl ?_; refine sD [] rfl ?_; refine sD [] rfl ?_; refine sD [] rfl ?_
  refine ev_condD rfl (fun h1 => ?_) (fun h1 => ?_)
  · refine sA [] rfl ?_
    exact ret1 (.inr rfl) rfl rfl ⟨by unfold chk; rw [if_pos (by omega)]; rfl, Fr.refl _ _⟩
  refine sA [] rfl ?_
  refine ev_loop (α := Nat) (fun k => [(8, .slice A stops.length c), (9, .int .i64 stops.length), (10, .int .i64 k)])
    (fun k w' => k ≤ stops.length ∧ (∀ j, j < k → okStop (stops.getD j [])) ∧ Fr no w w') (fun k => stops.length - k) 0 ⟨rfl, rfl, rfl, trivial⟩ ⟨Nat.zero_le _, fun j h => by omega, Fr.refl _ _⟩ ?_
  rintro k w1 ⟨hk, hok, hf1⟩
  refine sC [] rfl ?_; refine sD [] rfl ?_
  refine ev_condD rfl (fun hlt => ?_) (fun hlt => ?_)
  · have hk1 : k < stops.length := by omega
    obtain ⟨g, o, e1, hc⟩ := strs_at (hA.fr0 hf1) hk1
    subst e1
    have hxl := hst _ (getD_mem' hk1)
    have bad := fun hb => chk_bad (show stops.length ≤ 16 by omega) (getD_mem' hk1) hb
    have good' : okStop (stops.getD k []) → ∀ j, j < k + 1 → okStop (stops.getD j []) := fun h j hj => by
      by_cases hjk : j = k
      · subst hjk; exact h
      · exact hok j (by omega)
    obtain ⟨x, hx⟩ : ∃ x, x = stops.getD k [] := ⟨_, rfl⟩
    rw [← hx] at hc hxl bad good'
    refine sA [] rfl ?_
    refine ev_indexAddr rfl rfl tabOk rfl rfl rfl (by omega) (by omega) ?_
    refine ev_load rfl rfl tabOk rfl rfl ‹_› ?_; refine sC [] rfl ?_; refine sD [] rfl ?_; refine sD [] rfl ?_; refine sD [] rfl ?_
    refine ev_guardD rfl rfl (fun h2 => ?_) (fun h2 => ?_)
    · have h2 : x = [] := h2
      refine sA [] rfl ?_
      exact ret1 (.inr rfl) rfl rfl ⟨by rw [bad (fun h => h.1 h2)]; rfl, hf1⟩
    have h2 : ¬ x = [] := h2
    refine sC [] rfl ?_; refine sD [] rfl ?_
    refine ev_guardD rfl rfl (fun h3 => ?_) (fun h3 => ?_)
    · refine sA [] rfl ?_
      exact ret1 (.inr rfl) rfl rfl ⟨by rw [bad (fun h => by have := h.2.1; omega)]; rfl, hf1⟩
    refine sA [] rfl ?_
    refine ev_call rfl rfl rfl (refClean x _ (by omega)) (fun q w3 hq => ?_)
    obtain ⟨rfl, hf3⟩ := hq
    refine sC [] rfl ?_
    refine ev_condD rfl (fun h4 => ?_) (fun h4 => ?_)
    · refine sA [] rfl ?_
      exact ret1 (.inr rfl) rfl rfl ⟨by rw [bad (fun h => h4 h.2.2)]; rfl, hf1.tr hf3⟩
    · refine sA [] rfl ?_; refine ev_arith rfl rfl rfl rfl rfl (by simp only [lowK, hiK]; omega) ?_; refine sA [] rfl ?_
      exact ev_next (k + 1) (by omega) ⟨by omega, good' ⟨h2, by omega, Decidable.not_not.1 h4⟩, hf1.tr hf3⟩ ⟨rfl, rfl, rfl, trivial⟩
  · refine sA [] rfl ?_
    exact ret1 (.inr rfl) rfl rfl ⟨by rw [chk_ok (by omega) (fun j hj => hok j (by omega))]; rfl, hf1⟩

/-- a stream to which nothing was fed -/
def fresh (stops : List (List UInt8)) : SV := ⟨stops, [], [], 0, false, false⟩
/-- what New answers: a stream, or none -/
def NewR (w w' : World) (stops : List (List UInt8)) (x : Value) : Prop :=
  (chk stops = 0 ∧ ∃ p v, x = .pointer (some ⟨p, 0, none⟩) ∧ St w' p v (fresh stops) ∧ w.heap.size ≤ p ∧ ∀ g, v.ownBlock = some g → w.heap.size ≤ g) ∨ (chk stops ≠ 0 ∧ x = .pointer none)
theorem sNew (A : Option Addr) (c : Nat) (stops : List (List UInt8)) (w : World) (hA : Cs w A (stops.map sv)) (hn : stops.length ≤ 100000000) (hst : ∀ t ∈ stops, t.length ≤ 100000000) (hT : UT w) :
    CallsF Tryd.prog 22 [.slice A stops.length c] w fun r w' => ∃ x, r = .tuple #[x, .int .i64 (chk stops)] ∧ NewR w w' stops x ∧ Fr no w w' := by
  refine callsF Tryd.func22 rfl rfl (by decide) rfl ?_
  refine sC [] rfl ?_; refine sC [] rfl ?_; refine sC [] rfl ?_
  refine ev_condD rfl (fun h1 => ?_) (fun h1 => ?_)
  · refine sA [] rfl ?_
    have e : chk stops = 141 := by unfold chk; rw [if_pos (by omega)]
    exact ret2 (.inr rfl) rfl rfl rfl ⟨_, by rw [e]; rfl, .inr ⟨by omega, rfl⟩, Fr.refl _ _⟩
  refine sA [] rfl ?_
  refine ev_build rfl rfl (v := .agg #[.slice none 0 0, sv [], sv [], .int .i64 0, .bool false, .bool false]) rfl (fun w => by kernel_rfl) ?_
  refine ev_box rfl rfl rfl (fun p wb hp hB hfb => ?_)
  have hB : Blk wb p [.slice none 0 0, sv [], sv [], .int .i64 0, .bool false, .bool false] 82 := hB
  refine sA [] rfl ?_
  refine ev_loop (α := Nat × Value) (fun y => [(4, .pointer (some ⟨p, 0, none⟩)), (12, .slice A stops.length c), (13, .int .i64 stops.length), (14, .int .i64 y.1)])
    (fun y w' => y.1 ≤ stops.length ∧ (∀ j, j < y.1 → okStop (stops.getD j [])) ∧ Blk w' p [y.2, sv [], sv [], .int .i64 0, .bool false, .bool false] 82 ∧ Own w' 9 1 y.2 y.1 ((stops.take y.1).map sv) ∧ (∀ g, y.2.ownBlock = some g → w.heap.size ≤ g ∧ g ≠ p) ∧ Fr no w w')
    (fun y => stops.length - y.1) (0, .slice none 0 0) ⟨rfl, rfl, rfl, rfl, trivial⟩ ⟨Nat.zero_le _, fun j h => by simp only at h; omega, hB, World.ownsRow_nil _ _ _ _, fun g hg => by simp [Value.ownBlock] at hg, hfb⟩ ?_
  clear hB hfb
  rintro ⟨k, v⟩ w1 ⟨hk, hok, hB, hO, hg0, hf1⟩
  simp only at hk hok hB hO hg0
  refine sC [] rfl ?_; refine sD [] rfl ?_
  refine ev_condD rfl (fun hlt => ?_) (fun hlt => ?_)
  · simp only at hlt
    have hk1 : k < stops.length := by omega
    obtain ⟨g, o, e1, hc⟩ := strs_at (hA.fr0 hf1) hk1
    subst e1
    have hxl := hst _ (getD_mem' hk1)
    have bad := fun hb => chk_bad (show stops.length ≤ 16 by omega) (getD_mem' hk1) hb
    have good' : okStop (stops.getD k []) → ∀ j, j < k + 1 → okStop (stops.getD j []) := fun h j hj => by
      by_cases hjk : j = k
      · subst hjk; exact h
      · exact hok j (by omega)
    have htk : (stops.take (k + 1)).map sv = (stops.take k).map sv ++ flatV [sv (stops.getD k [])] := by
      rw [List.take_add_one, List.map_append, List.getElem?_eq_getElem hk1, List.getD_eq_getElem?_getD, List.getElem?_eq_getElem hk1]
      rfl
    obtain ⟨x, hx⟩ : ∃ x, x = stops.getD k [] := ⟨_, rfl⟩
    rw [← hx] at hc hxl bad good' htk
    refine sA [] rfl ?_
    refine ev_indexAddr (len := stops.length) (i := k) rfl rfl tabOk rfl rfl rfl (by omega) (by omega) ?_
    refine ev_load rfl rfl tabOk rfl rfl ‹_› ?_; refine sC [] rfl ?_; refine sC [] rfl ?_
    refine ev_guardD rfl rfl (fun h2 => ?_) (fun h2 => ?_)
    · have h2 : x = [] := h2
      refine sA [] rfl ?_
      have e := bad (fun h => h.1 h2)
      exact ret2 (.inr rfl) rfl rfl rfl ⟨_, by rw [e]; rfl, .inr ⟨by omega, rfl⟩, hf1⟩
    have h2 : ¬ x = [] := h2
    refine sC [] rfl ?_; refine sD [] rfl ?_
    refine ev_guardD rfl rfl (fun h3 => ?_) (fun h3 => ?_)
    · refine sA [] rfl ?_
      have e := bad (fun h => by have := h.2.1; omega)
      exact ret2 (.inr rfl) rfl rfl rfl ⟨_, by rw [e]; rfl, .inr ⟨by omega, rfl⟩, hf1⟩
    refine sA [] rfl ?_
    refine ev_call rfl rfl rfl (wClean x _ (by omega) (hT.fr0 hf1)) (fun q w3 hq => ?_)
    obtain ⟨rfl, hf3⟩ := hq
    refine sC [] rfl ?_
    refine ev_condD rfl (fun h4 => ?_) (fun h4 => ?_)
    · refine sA [] rfl ?_
      have e := bad (fun h => h4 h.2.2)
      exact ret2 (.inr rfl) rfl rfl rfl ⟨_, by rw [e]; rfl, .inr ⟨by omega, rfl⟩, hf1.tr hf3⟩
    · have hB3 := hB.fr0 hf3
      have hO3 := hO.fr0 hf3
      have c0 : w3.cell? ⟨p, 0, none⟩ = some v := hB3.cell rfl
      refine sA [] rfl ?_; refine ev_load rfl rfl tabOk rfl rfl ‹_› ?_; refine sA [] rfl ?_
      refine ev_append1 tabOk rfl rfl (fun _ => rfl) rfl rfl inf9 rfl (by omega) (fun _ => rfl) rfl rfl (by simp [Value.cells]) (by simp [flatV, Value.cells, Value.oneCell']) rfl hO3 (by omega) (fun v2 w4 q hO4 hf4 hn4 => ?_)
      have hB4 := hB3.fr hf4 (fun e => (hg0 p e).2 rfl)
      rw [← htk] at hO4
      have h13 := hf1.size
      have h33 := hf3.size
      have hp3 := hB.lt
      have hg4 : ∀ g, v2.ownBlock = some g → w.heap.size ≤ g ∧ g ≠ p := fun g hg => by
        rcases hn4 g hg with h | h
        · exact hg0 g h
        · exact ⟨by omega, by omega⟩
      have hf14 : Fr no w w4 := (hf1.tr hf3).trans hf4 (fun u hu z => by have := (hg0 u z).1; omega)
      refine sA [] rfl ?_
      refine ev_store tabOk rfl rfl rfl rfl rfl (own_one hO4) hB4 rfl (fun w5 hB5 hf5 => ?_)
      refine sA [] rfl ?_; refine ev_arith rfl rfl rfl rfl rfl (by simp only [lowK, hiK]; omega) ?_; refine sA [] rfl ?_
      exact ev_next (k + 1, v2) (by simp only; omega) ⟨by simp only; omega, good' ⟨h2, by omega, Decidable.not_not.1 h4⟩, hB5, hO4.fr hf5 (fun g hg e => (hg4 g hg).2 e), hg4, fresh_set hf14 hp hf5⟩ ⟨rfl, rfl, rfl, rfl, trivial⟩
  · simp only at hlt
    have hk' : k = stops.length := by omega
    subst hk'
    rw [List.take_length] at hO
    have e := chk_ok (by omega) hok
    refine sA [] rfl ?_
    exact ret2 (.inr rfl) rfl rfl rfl ⟨_, by rw [e]; rfl, .inl ⟨e, p, v, rfl, ⟨hB, hO, fun h => (hg0 p h).2 rfl⟩, hp, fun g hg => (hg0 g hg).1⟩, hf1⟩
end Go.Wk.YtpnhfkmgnkdleaaDoor
