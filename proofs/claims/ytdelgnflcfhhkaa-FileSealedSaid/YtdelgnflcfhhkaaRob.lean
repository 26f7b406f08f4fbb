/-
  The walk kit: a row of bytes that was made out of a text, and what is appended to it.
-/
import Derived.Test.YtdelgnflcfhhkaaEvs
import Derived.ArgAppend
set_option linter.unusedVariables false
set_option linter.unusedSectionVars false
namespace Go.Wk
open Go

/-- a row of one's own, said by its cells alone -/
def OB (w : World) (v : Value) (n : Nat) (xs : List Value) : Prop :=
  ∃ g cap, v = .slice (some ⟨g, 0, none⟩) n cap ∧ g < w.heap.size ∧ n ≤ cap ∧ xs.length = n ∧ (∀ j u, xs[j]? = some u → w.cell? ⟨g, j, none⟩ = some u) ∧
    (∀ j, j < cap → (w.cell? ⟨g, j, none⟩).isSome = true ∧ w.frozen? ⟨g, j, none⟩ = false)
theorem OB.fr {S : Nat → Prop} {w w' : World} {v : Value} {n : Nat} {xs : List Value} (h : OB w v n xs) (hf : Fr S w w') (hn : ∀ g, v.ownBlock = some g → ¬ S g) : OB w' v n xs := by
  obtain ⟨g, cap, rfl, h1, h2, h3, h4, h5⟩ := h
  have e := hf.block g h1 (hn g rfl)
  refine ⟨g, cap, rfl, Nat.lt_of_lt_of_le h1 hf.size, h2, h3, fun j u hj => ?_, fun j hj => ?_⟩
  · rw [World.cell?_of_block (a := ⟨g, j, none⟩) e]; exact h4 j u hj
  · rw [World.cell?_of_block (a := ⟨g, j, none⟩) e, World.frozen?_of_block (a := ⟨g, j, none⟩) e]; exact h5 j hj
theorem OB.fr0 {w w' : World} {v : Value} {n : Nat} {xs : List Value} (h : OB w v n xs) (hf : Fr no w w') : OB w' v n xs := h.fr hf fun _ _ => id
theorem OB.slice {w : World} {v : Value} {n : Nat} {xs : List Value} (h : OB w v n xs) : ∃ g cap, v = .slice (some ⟨g, 0, none⟩) n cap ∧ Cs w (some ⟨g, 0, none⟩) xs := by
  obtain ⟨g, cap, rfl, h1, h2, h3, h4, h5⟩ := h
  exact ⟨g, cap, rfl, fun j u hj => ⟨g, 0, rfl, by rw [Nat.zero_add]; exact h4 j u hj⟩⟩
theorem OB.of_own {w : World} {e : TypeId} {v : Value} {n : Nat} {xs : List Value} (h : Own w e 1 v n xs) (hn : 0 < n) : OB w v n xs := by
  rcases h.2 with ⟨_, h0⟩ | ⟨g, cap, cur, rfl, hb, hg, hc, hm, hs, ht⟩
  · omega
  · rw [Nat.mul_one] at hs ht
    refine ⟨g, cap, rfl, (Array.getElem?_eq_some_iff.1 hg).1, hc, by have := h.1; omega, fun j u hj => ?_, fun j hj => ⟨?_, ?_⟩⟩
    · rw [← ht, List.getElem?_take] at hj
      split at hj
      · simp only [World.cell?, hg]
        simpa using hj
      · cases hj
    · simp only [World.cell?, hg]
      simp [show j < cur.size by omega]
    · simp [World.frozen?, hg]
theorem Fr.setCells (b : Nat) : ∀ (vs : List Value) (o : Nat) (w : World), Fr (fun c => c = b) w (w.setCells b o vs)
  | [], _, w => Fr.refl _ w
  | v :: r, o, w => (Fr.setCell w ⟨b, o, none⟩ v).trans (Fr.setCells b r (o + 1) _) fun _ _ e => e
section
variable {P : Program} {fn : Func} {R : Ending → World → Prop} {n : Nat} {tab : Tab} {w : World}
variable {k : List It} {env : Env} {L l : List Oper} {d : Nat} {ty : TypeId} {ps : String} {af : Array Edge} {g : Option (Nat × Bool)}
/-- []byte(s), and it may be appended to -/
theorem ev_bytesOB {x : Operand} {s t : TypeId} {e sz : Nat} {r : List UInt8}
    (hT : TabOk P tab) (hg : guardOf L env g = some true) (hd : Nat.blt d n = true) (hs : tyAt tab s = .str) (ht : tyAt tab t = .slice e sz) (he : tyAt tab e = .int .u8) (hx : ev env x = some (.string (sOf r)))
    (hk : ∀ v w', OB w' v r.length (r.map bv) → Fr no w w' → v.ownBlock = some w.heap.size → H P fn R n (.ops L l :: k) .normal ((d, v) :: env) w') :
    H P fn R n (.ops L (⟨some d, .convert s t x, ty, ps, af, g⟩ :: l) :: k) .normal env w := by
  obtain ⟨h1, h2⟩ := ty_slice hT ht
  have hr := run_bytes_of_string (P := P) w s t e (sOf r) (ty_str hT hs) h1 (ty_int hT he)
  refine ev_op hg hd _ _ (fun a hA => by
    simp only [execOp, hA.ev hx]
    exact run_bind hr) (hk _ _ ?_ ((Fr.drew w).tr (Fr.alloc _ _)) rfl)
  have hnew := heap_alloc_new w.drew (.cells (bytesRow (sOf r) (grownCap w (sOf r).size 0 e)) e ((bytesRow (sOf r) (grownCap w (sOf r).size 0 e)).size, (bytesRow (sOf r) (grownCap w (sOf r).size 0 e)).size + 1))
  have hsz : w.drew.heap.size = w.heap.size := rfl
  rw [hsz] at hnew
  have hge := grownCap_ge w (sOf r).size 0 e
  have hbs : (bytesRow (sOf r) (grownCap w (sOf r).size 0 e)).size = grownCap w (sOf r).size 0 e := by
    have h0 : (sOf r).size = (sOf r).data.size := rfl
    unfold bytesRow
    rw [Array.size_append, Array.size_map, Array.size_replicate]
    omega
  refine ⟨w.heap.size, _, rfl, (Array.getElem?_eq_some_iff.1 hnew).1, hge, by simp, fun j u hj => ?_, fun j hj => ⟨?_, ?_⟩⟩
  · have hlt : j < r.length := by simpa using (List.getElem?_eq_some_iff.1 hj).1
    simp only [World.cell?, hnew]
    simp only [List.getElem?_map, List.getElem?_eq_getElem hlt, Option.map_some, Option.some.injEq] at hj
    subst hj
    simp [bytesRow, Array.getElem?_append, hlt]
  · simp only [World.cell?, hnew]
    simp [show j < (bytesRow (sOf r) (grownCap w (sOf r).size 0 e)).size by omega]
  · simp only [World.frozen?, hnew]
    simp only [Bool.and_eq_false_imp, decide_eq_true_eq, decide_eq_false_iff_not]
    omega
/-- append to such a row -/
theorem ev_appendOB {x y : Operand} {t : TypeId} {e : Nat} {z : Value} {b : Nat} {v : Value} {nn : Nat} {xs : List Value} {A : Addr} {m c : Nat} {news : List Value}
    (hT : TabOk P tab) (hg : guardOf L env g = some true) (hd : Nat.blt d n = true) (hty : tyAt tab t = .slice e 1) (hz : Inf P e z 1 b) (hzs : z.cells.size = 1)
    (hx : ev env x = some v) (hy : ev env y = some (.slice (some A) m c)) (hown : OB w v nn xs) (hc : Cs w (some A) news) (hl : news.length = m) (hm : 0 < m) (h1 : ∀ u ∈ news, u.oneCell' = true) (hbytes : (nn + m) * b ≤ 140737488355328) (h63 : nn + m ≤ 9223372036854775807)
    (hk : ∀ v' w', OB w' v' (nn + m) (xs ++ news) → Fr (fun q => v.ownBlock = some q) w w' → NB w v v' → H P fn R n (.ops L l :: k) .normal ((d, v') :: env) w') :
    H P fn R n (.ops L (⟨some d, .call ⟨.builtin .append, ⟨[x, y]⟩, ⟨[t, t]⟩⟩, ty, ps, af, g⟩ :: l) :: k) .normal env w := by
  obtain ⟨inf, hi, hzv, hs, hby⟩ := hz
  obtain ⟨ht, h2⟩ := ty_slice hT hty
  obtain ⟨q, cap, rfl, q1, q2, q3, q4, q5⟩ := hown
  have hAn : ∀ j u, news[j]? = some u → w.cell? (A.add j) = some u := fun j u hj => by
    obtain ⟨b2, o2, e2, hcc⟩ := hc j u hj
    cases e2
    rw [show (⟨b2, o2, none⟩ : Addr).add j = ⟨b2, o2 + j, none⟩ from Addr.add_lit ..]
    exact hcc
  by_cases hroom : nn + m ≤ cap
  · have hr := run_append_room_cells (P := P) w t ty e inf ht hi q 0 nn cap A m c news (by rw [hs]; omega) hAn h1 hroom
      (fun j hj => by rw [hs, Nat.mul_one, Nat.zero_add]; exact (q5 _ (by omega)).1) (fun j hj => by rw [hs, Nat.mul_one, Nat.zero_add]; exact (q5 _ (by omega)).2)
    rw [hs, Nat.mul_one, Nat.zero_add] at hr
    have hsize : ∀ (vs : List Value) (o : Nat) (w : World), (w.setCells q o vs).heap.size = w.heap.size := by
      intro vs
      induction vs with
      | nil => intro o w; rfl
      | cons a r ih => intro o w; rw [World.setCells, ih]; simp [World.setCell]
    refine ev_op hg hd _ _ (fun a hA => by
      simp only [execOp, resolve, List.map_toArray, List.map, hA.ev hx, hA.ev hy]
      exact run_bind hr) (hk _ _ ⟨q, cap, rfl, by rw [hsize]; exact q1, hroom, by rw [List.length_append]; omega, fun j u hj => ?_, fun j hj => ⟨?_, ?_⟩⟩ ((Fr.setCells q news nn w).mono fun c _ e => by rw [e]; rfl) (NB.refl _ _))
    · by_cases hlt : j < nn
      · rw [List.getElem?_append_left (by omega)] at hj
        rw [World.cell?_setCells_out q news nn w _ (fun _ _ => .inl hlt)]
        exact q4 j u hj
      · rw [List.getElem?_append_right (by omega)] at hj
        have hlt2 := (List.getElem?_eq_some_iff.1 hj).1
        have := World.cell?_setCells_in q news nn w (fun i hi => (q5 _ (by omega)).1) (j - xs.length) hlt2
        rw [show nn + (j - xs.length) = j by omega] at this
        rw [this, ← hj, List.getElem?_eq_getElem hlt2]
    · by_cases hin : nn ≤ j ∧ j < nn + m
      · have := World.cell?_setCells_in q news nn w (fun i hi => (q5 _ (by omega)).1) (j - nn) (by omega)
        rw [show nn + (j - nn) = j by omega] at this
        rw [this]; rfl
      · rw [World.cell?_setCells_out q news nn w _ (fun _ _ => by simp only; omega)]
        exact (q5 j hj).1
    · rw [World.frozen?_setCells]; exact (q5 j hj).2
  · obtain ⟨v', w', hr, ho, hgr⟩ := run_append_arg_grows (P := P) w t ty e inf z 1 b ht hi hzv hs hby hzs (by omega) ⟨q, 0, none⟩ nn cap xs (by omega) (fun j u hj => by
      rw [show (⟨q, 0, none⟩ : Addr).add j = ⟨q, 0 + j, none⟩ from Addr.add_lit .., Nat.zero_add]; exact q4 j u hj) A m c news (by omega) hAn (by omega) (by unfold maxLen; omega) hbytes
    refine ev_op hg hd v' w' (fun a hA => by
      simp only [execOp, resolve, List.map_toArray, List.map, hA.ev hx, hA.ev hy]
      exact run_bind hr) (hk _ _ (OB.of_own (e := e) ⟨ho.1, ?_⟩ (by omega)) ((Fr.of_grown hgr).mono fun _ _ e => by cases e) (fun g' hg' => .inr (World.ownsRow.lt ho g' hg').1))
    rcases ho.2 with z | ⟨g, cp, cur, a1, a2, a3, a4, a5, a6, a7⟩
    · exact .inl z
    · exact .inr ⟨g, cp, cur, a1, Nat.zero_le _, a3, a4, a5, a6, a7⟩
end
end Go.Wk
