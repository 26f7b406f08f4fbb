/-
  Chapter 16: a model of one's own (shape.own).
-/
import Derived.Test.YtfgllkflnkolhaaDoorShYo
set_option linter.unusedVariables false
namespace Go.Wk.YtfgllkflnkolhaaDoor
open Go Go.Wk Go.Proofs

/-- rows put at their places among cells -/
def putR (cs : List Value) : List Nat → List Rw → List Value
  | o :: os, r :: Q => putR (cs.set o r.v) os Q
  | _, _ => cs
theorem putR_len : ∀ (os : List Nat) (Q : List Rw) (cs : List Value), (putR cs os Q).length = cs.length
  | [], _, cs => by simp [putR]
  | o :: os, [], cs => by simp [putR]
  | o :: os, r :: Q, cs => by rw [putR, putR_len os Q, List.length_set]
theorem putR_snoc (o : Nat) (r : Rw) : ∀ (os : List Nat) (Q : List Rw) (cs : List Value), os.length = Q.length → putR cs (os ++ [o]) (Q ++ [r]) = (putR cs os Q).set o r.v
  | [], [], cs, _ => rfl
  | a :: os, b :: Q, cs, h => putR_snoc o r os Q _ (by simpa using h)
theorem putR_out (o : Nat) : ∀ (os : List Nat) (Q : List Rw) (cs : List Value), o ∉ os → (putR cs os Q)[o]? = cs[o]?
  | [], _, cs, _ => by simp [putR]
  | a :: os, [], cs, _ => by simp [putR]
  | a :: os, r :: Q, cs, h => by
    rw [putR, putR_out o os Q _ (fun z => h (List.mem_cons_of_mem _ z)), List.getElem?_set_ne (fun e => h (by rw [e]; exact List.mem_cons_self))]
theorem putR_app (pre post : List Value) : ∀ (os : List Nat) (Q : List Rw) (mid : List Value), (∀ o ∈ os, o < mid.length) → putR (pre ++ (mid ++ post)) (os.map (pre.length + ·)) Q = pre ++ (putR mid os Q ++ post)
  | [], _, mid, _ => by simp [putR]
  | o :: os, [], mid, _ => by simp [putR]
  | o :: os, r :: Q, mid, h => by
    have h1 := h o List.mem_cons_self
    rw [List.map_cons, putR, putR, List.set_append_right _ _ (by omega), Nat.add_sub_cancel_left, List.set_append_left _ _ h1]
    exact putR_app pre post os Q _ fun x hx => by rw [List.length_set]; exact h x (List.mem_cons_of_mem _ hx)
theorem putR_take (n : Nat) : ∀ (os : List Nat) (Q : List Rw) (cs : List Value), (putR cs os Q).take n = putR (cs.take n) os Q
  | [], _, cs => by simp [putR]
  | o :: os, [], cs => by simp [putR]
  | o :: os, r :: Q, cs => by rw [putR, putR, putR_take n os Q, List.take_set]
abbrev ptV (p o : Nat) : Value := .pointer (some ⟨p, o, none⟩)
theorem wCopied (p : Nat) (T : TypeId) (l : List (Nat × Rw)) (cs : List Value) (B : Option Addr) (cap : Nat) (w : World)
    (hB : Cs w B (l.map fun x => ptV p x.1)) (hBo : CsOff p B (l.map fun x => ptV p x.1)) (hp : Blk w p cs T) (hl : l.length ≤ 1000)
    (hcs : ∀ i (h : i < l.length), cs[l[i].1]? = some l[i].2.v) (hat : ∀ x ∈ l, x.2.At w ∧ CsOff p x.2.A (x.2.xs.map i8v) ∧ x.2.xs.length ≤ 1000000000) (hd : (l.map Prod.fst).Nodup) :
    CallsF Tryd.prog 78 [.slice B l.length cap] w fun r w' => ∃ Q : List Rw, Q.map Rw.xs = l.map (fun x => x.2.xs) ∧ NR w w' Q ∧ Blk w' p (putR cs (l.map Prod.fst) Q) T ∧ Fr (fun c => c = p) w w' := by
  have hps : p < w.heap.size := hp.lt
  refine callsF Tryd.func78 rfl rfl (by decide) rfl ?_
  refine sA [] rfl ?_
  refine ev_loop (α := List Rw) (fun Q => [(4, .slice B l.length cap), (5, i64 l.length), (6, i64 Q.length)])
    (fun Q w' => Q.length ≤ l.length ∧ Q.map Rw.xs = (l.take Q.length).map (fun x => x.2.xs) ∧ NR w w' Q ∧ Blk w' p (putR cs ((l.take Q.length).map Prod.fst) Q) T ∧ Fr (fun c => c = p) w w') (fun Q => l.length - Q.length) [] ⟨rfl, rfl, rfl, trivial⟩
    ⟨Nat.zero_le _, rfl, NR.nil _ _, hp, Fr.refl _ _⟩ ?_
  rintro Q w1 ⟨hq, hx, hn, hb, hf⟩
  refine sC [] rfl ?_; refine sD [] rfl ?_
  refine ev_condD rfl (fun c => ?_) (fun c => ?_)
  · have hlt : Q.length < l.length := by omega
    have hB1 := hBo.keep hB hf
    obtain ⟨g, o, rfl, hcell⟩ := hB1 Q.length (ptV p l[Q.length].1) (by rw [List.getElem?_map, List.getElem?_eq_getElem hlt]; rfl)
    obtain ⟨ha, hao, hal⟩ := hat l[Q.length] (List.getElem_mem hlt)
    have ha := hao.keep ha hf
    have hv := hcs Q.length hlt
    have hnd : l[Q.length].1 ∉ (l.take Q.length).map Prod.fst := by
      intro hm
      rw [List.map_take] at hm
      obtain ⟨j, hj, e⟩ := List.getElem_of_mem hm
      have hj1 : j < Q.length := by simp at hj; omega
      rw [List.getElem_take] at e
      have e2 : (l.map Prod.fst)[j]'(by simp; omega) = (l.map Prod.fst)[Q.length]'(by simpa using hlt) := by rw [e]; simp
      exact List.pairwise_iff_getElem.1 hd j Q.length (by simp; omega) (by simpa using hlt) hj1 e2
    rw [← putR_out _ _ Q _ hnd] at hv
    have htk : l.take (Q.length + 1) = l.take Q.length ++ [l[Q.length]] := List.take_succ_eq_append_getElem hlt
    obtain ⟨⟨oy, ry⟩, hy⟩ : ∃ z, z = l[Q.length] := ⟨_, rfl⟩
    rw [← hy] at hcell ha hal hv htk
    have hov : oy < (putR cs ((l.take Q.length).map Prod.fst) Q).length := (List.getElem?_eq_some_iff.1 hv).1
    refine sA [] rfl ?_
    refine ev_indexAddr rfl rfl tabOk rfl rfl rfl (by omega) (by omega) ?_
    rw [show o + (Q.length : Int).toNat * 1 = o + Q.length by omega]
    refine ev_load rfl rfl tabOk rfl rfl hcell ?_
    refine sA [] rfl ?_
    refine ev_load rfl rfl tabOk rfl rfl (hb.cell (by rw [nthV_eq]; exact hv)) ?_
    refine ev_append tabOk rfl rfl rfl inf56 rfl (by omega) rfl rfl (Own.nil _ _ _) ha (by simp) (fun u hu => by obtain ⟨x, _, rfl⟩ := List.mem_map.1 hu; rfl) (by omega) (fun v' w2 hO' f' hnb => ?_)
    have hF : Fr no w1 w2 := f'.mono fun _ _ z => by cases z
    obtain ⟨A', c', e, _, _⟩ := hO'.slice
    subst e
    rw [Nat.zero_add, List.nil_append] at hO'
    rw [Nat.zero_add] at hnb
    have hb2 := hb.fr0 hF
    refine sA [] rfl ?_
    refine ev_store tabOk rfl rfl rfl rfl rfl rfl hb2 (blt_of hov) (fun w3 hb3 f3 => ?_)
    refine sA [] rfl ?_; refine ev_arith rfl rfl rfl rfl rfl (by simp only [lowK, hiK]; omega) ?_; refine sA [] rfl ?_
    have hsz1 : w.heap.size ≤ w1.heap.size := hf.size
    have hsz2 := hF.size
    have hr : OR w w3 ⟨A', c', ry.xs⟩ := by
      refine ⟨hO'.fr f3 fun g hg e => ?_, fun g hg => ?_⟩
      · rcases hnb with h | h
        · have h3 : (Value.slice A' ry.xs.length c').ownBlock = some g := hg
          rw [h] at h3; cases h3
        · have h3 : (Value.slice A' ry.xs.length c').ownBlock = some g := hg
          rw [h] at h3; cases h3
          have e : w1.heap.size = p := e
          omega
      · rcases hnb with h | h
        · have h3 : (Value.slice A' ry.xs.length c').ownBlock = some g := hg
          rw [h] at h3; cases h3
        · have h3 : (Value.slice A' ry.xs.length c').ownBlock = some g := hg
          rw [h] at h3; cases h3
          omega
    have hap : ∀ r ∈ Q, apR r ⟨A', c', ry.xs⟩ := fun r hr g hg e => by
      have h1 := (hn.rows r hr).lt hg
      have h3 : (Value.slice A' ry.xs.length c').ownBlock = some g := e
      rcases hnb with h | h
      · rw [h] at h3; cases h3
      · rw [h] at h3; cases h3; omega
    have hn3 : NR w w3 Q := (hn.fr0 hF).fr f3 (hn.ge hps)
    have hlen : (Q ++ [(⟨A', c', ry.xs⟩ : Rw)]).length = Q.length + 1 := by simp
    refine ev_next (Q ++ [⟨A', c', ry.xs⟩]) (by rw [hlen]; omega) ⟨by rw [hlen]; omega, ?_, ⟨fun r h => ?_, ?_⟩, ?_, ?_⟩ ⟨rfl, rfl, by rw [hlen, show ((Q.length + 1 : Nat) : Int) = (Q.length : Int) + 1 by omega]; rfl, trivial⟩
    · rw [hlen, htk, List.map_append, List.map_append, hx]; rfl
    · rcases List.mem_append.1 h with h | h
      · exact hn3.rows r h
      · rw [List.mem_singleton.1 h]; exact hr
    · exact List.pairwise_append.2 ⟨hn3.ap, List.pairwise_singleton _ _, fun r h r' h' => by rw [List.mem_singleton.1 h']; exact hap r h⟩
    · rw [hlen, htk, List.map_append]
      rw [setV_eq, Nat.zero_add] at hb3
      rw [show List.map Prod.fst [(oy, ry)] = [oy] from rfl, putR_snoc _ _ _ _ _ (by simp; omega)]
      exact hb3
    · exact (hf.trans hF fun z _ e => e.elim).trans f3 fun z _ e => e
  · have e : Q.length = l.length := by omega
    refine sA [] rfl ?_
    rw [e, List.take_length] at hx hb
    exact ret0 (.inl rfl) rfl ⟨Q, hx, hn, hb, hf⟩
end Go.Wk.YtfgllkflnkolhaaDoor
