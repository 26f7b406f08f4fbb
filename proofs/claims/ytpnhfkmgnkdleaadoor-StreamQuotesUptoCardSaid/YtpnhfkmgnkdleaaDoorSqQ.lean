/-
  The walks of chapter 14: Quote, the program's and the document's.
-/
import Derived.Test.YtpnhfkmgnkdleaaDoorSpB
import Derived.Test.YtpnhfkmgnkdleaaDoorSqI
import Derived.Test.YtpnhfkmgnkdleaaDoorSqK
set_option linter.unusedVariables false
namespace Go.Wk.YtpnhfkmgnkdleaaDoor
open Go Go.Wk Go.Proofs

/-- a byte, quoted -/
def qBy (c : UInt8) : List UInt8 :=
  if c = 8 then [92, 98] else if c = 9 then [92, 116] else if c = 10 then [92, 110] else if c = 12 then [92, 102] else if c = 13 then [92, 114] else if c = 34 then [92, 34] else if c = 92 then [92, 92]
  else if c.toNat < 32 then [92, 117, 48, 48, digs.getD (c.toNat / 16) 0, digs.getD (c.toNat % 16) 0] else [c]
def qAll (s : List UInt8) : List UInt8 := s.flatMap qBy
def quoteF (s : List UInt8) : List UInt8 := [34] ++ qAll (clean s) ++ [34]
abbrev qIn : List UInt8 := [8, 9, 10, 12, 13, 34, 92]
abbrev qOut : List UInt8 := [98, 116, 110, 102, 114, 34, 92]
theorem qBy_all : ∀ n : Fin 256, (0 ≤ Lib.indexByte qIn (UInt8.ofNat n.val) → Lib.indexByte qIn (UInt8.ofNat n.val) < 7 ∧ qBy (UInt8.ofNat n.val) = [92, qOut.getD (Lib.indexByte qIn (UInt8.ofNat n.val)).toNat 0]) ∧
    (¬ 0 ≤ Lib.indexByte qIn (UInt8.ofNat n.val) → n.val < 32 → qBy (UInt8.ofNat n.val) = [92, 117, 48, 48, digs.getD (n.val / 16) 0, digs.getD (n.val % 16) 0]) ∧
    (¬ 0 ≤ Lib.indexByte qIn (UInt8.ofNat n.val) → ¬ n.val < 32 → qBy (UInt8.ofNat n.val) = [UInt8.ofNat n.val]) := by decide +kernel
theorem qBy_idx (c : UInt8) : (0 ≤ Lib.indexByte qIn c → Lib.indexByte qIn c < 7 ∧ qBy c = [92, qOut.getD (Lib.indexByte qIn c).toNat 0]) ∧
    (¬ 0 ≤ Lib.indexByte qIn c → c.toNat < 32 → qBy c = [92, 117, 48, 48, digs.getD (c.toNat / 16) 0, digs.getD (c.toNat % 16) 0]) ∧ (¬ 0 ≤ Lib.indexByte qIn c → ¬ c.toNat < 32 → qBy c = [c]) := by
  have h := qBy_all ⟨c.toNat, c.toNat_lt⟩
  simpa using h
theorem qBy_len (c : UInt8) : (qBy c).length ≤ 6 := by
  have key : ∀ n : Fin 256, (qBy (UInt8.ofNat n.val)).length ≤ 6 := by decide +kernel
  have := key ⟨c.toNat, c.toNat_lt⟩
  simpa using this
theorem qAll_len : ∀ s : List UInt8, (qAll s).length ≤ 6 * s.length
  | [] => Nat.le_refl _
  | c :: r => by
    have h1 := qAll_len r
    have h2 := qBy_len c
    simp only [qAll, List.flatMap_cons, List.length_append, List.length_cons] at h1 ⊢
    omega
theorem qAll_take {s : List UInt8} {i : Nat} (h : i < s.length) : qAll (s.take (i + 1)) = qAll (s.take i) ++ qBy (s.getD i 0) := by
  unfold qAll
  rw [List.take_add_one, List.flatMap_append, List.getElem?_eq_getElem h, List.getD_eq_getElem?_getD, List.getElem?_eq_getElem h]
  simp
theorem take_len (s : List UInt8) (i : Nat) : (s.take i).length ≤ i := by rw [List.length_take]; omega

/-- a builder that grows beside a row -/
def QS (w0 w : World) (b : Nat) (v : Value) (g : Nat) (bs cl : List UInt8) : Prop :=
  Bd w b v bs ∧ (∀ c, v.ownBlock = some c → w0.heap.size ≤ c ∧ c ≠ g) ∧ Cs w (some ⟨g, 0, none⟩) (cl.map bv) ∧ Fr no w0 w
theorem QS.step {w0 w w' : World} {b g : Nat} {v v' : Value} {bs bs' cl : List UInt8} (h : QS w0 w b v g bs cl) (hb : w0.heap.size ≤ b) (hg : b ≠ g) (hl : g < w.heap.size) (h' : Bd w' b v' bs') (hf : Fr (BS b v) w w') (hn : NB w v v') : QS w0 w' b v' g bs' cl := by
  refine ⟨h', fun c hc => ?_, h.2.2.1.fr hf fun a ha z => ?_, h.2.2.2.trans hf fun c hc z => ?_⟩
  · rcases hn c hc with z | z
    · exact h.2.1 c z
    · have := h.2.2.2.size; omega
  · cases ha
    rcases z with z | z
    · exact hg z.symm
    · exact (h.2.1 _ z).2 rfl
  · rcases z with z | z
    · omega
    · have := (h.2.1 _ z).1; omega
theorem QS.fr0 {w0 w w' : World} {b g : Nat} {v : Value} {bs cl : List UInt8} (h : QS w0 w b v g bs cl) (hf : Fr no w w') : QS w0 w' b v g bs cl := ⟨h.1.fr0 hf, h.2.1, h.2.2.1.fr0 hf, h.2.2.2.tr hf⟩

set_option maxHeartbeats 2000000 in
theorem wQuote (s : List UInt8) (w : World) (hs : s.length ≤ 1000000000) (hT : UT w) : CallsF Tryd.prog 35 [sv s] w fun r w' => r = sv (quoteF s) ∧ Fr no w w' := by
  have h01 := hT.lt
  have hcl := clean_len s
  refine callsF Tryd.func35 rfl rfl (by decide) rfl ?_
  refine sA [] rfl ?_
  refine ev_alloc rfl rfl inf89 (fun b w1 hb hB1 hf1 => ?_)
  have hB1 : Blk w1 b [.pointer none, .slice none 0 0] 89 := hB1
  have hBd : Bd w1 b (.slice none 0 0) [] := ⟨_, .inl rfl, hB1, Own.nil _ _ _, fun z => by cases z⟩
  refine sA [] rfl ?_
  refine ev_call rfl rfl rfl (bdByte b _ [] 34 _ hBd (by simp)) (fun r w2 hr => ?_)
  obtain ⟨v2, hB2, hf2, hn2⟩ := hr
  have hv2 : ∀ c, v2.ownBlock = some c → w.heap.size ≤ c ∧ c < w2.heap.size := fun c hc => ⟨by
    rcases hn2 c hc with z | z
    · cases z
    · have := hf1.size; omega, hB2.own.lt hc⟩
  have hF2 : Fr no w w2 := hf1.trans hf2 fun c hc z => by rcases z with z | z; omega; cases z
  have hT2 := hT.fr0 hF2
  refine sA [] rfl ?_
  refine ev_call rfl rfl rfl (wClean s _ (by omega) hT2) (fun r w3 hr => ?_)
  obtain ⟨rfl, hf3⟩ := hr
  have hB3 := hB2.fr0 hf3
  have hbl := hB3.lt
  obtain ⟨cl, hcle⟩ : ∃ c, c = clean s := ⟨_, rfl⟩
  rw [← hcle] at hcl ⊢
  skip
  refine ev_bytesOf tabOk rfl rfl rfl rfl rfl rfl (fun cp w4 hc4 hf4 hcp => ?_)
  obtain ⟨g, hg⟩ : ∃ g, g = w3.heap.size := ⟨_, rfl⟩
  rw [← hg] at hc4 ⊢
  have hQ : QS w w4 b v2 g [34] cl := ⟨hB3.fr0 hf4, fun c hc => ⟨(hv2 c hc).1, by have := (hv2 c hc).2; have := hf3.size; omega⟩, hc4, (hF2.tr hf3).tr hf4⟩
  have hbg : b ≠ g := by omega
  clear hB1 hBd hB2 hB3 hc4 hf1 hf2 hf3 hf4 hF2 hT2 hT
  refine sA [] rfl ?_
  refine ev_loop (α := Nat × Value) (fun y => [(3, .pointer (some ⟨b, 0, none⟩)), (10, .slice (some ⟨g, 0, none⟩) cl.length cp), (11, .int .i64 cl.length), (12, .int .i64 y.1)])
    (fun y w' => y.1 ≤ cl.length ∧ QS w w' b y.2 g ([34] ++ qAll (cl.take y.1)) cl) (fun y => cl.length - y.1) (0, v2) ⟨rfl, rfl, rfl, rfl, trivial⟩ ⟨Nat.zero_le _, hQ⟩ ?_
  clear hQ hv2
  rintro ⟨i, v⟩ w5 ⟨hi, hQ⟩
  simp only at hi hQ
  have hql : ([34] ++ qAll (cl.take i)).length ≤ 6 * i + 1 := by
    have := qAll_len (cl.take i)
    have := take_len cl i
    rw [List.length_append]; show 1 + _ ≤ _; omega
  refine sC [] rfl ?_; refine sD [] rfl ?_
  refine ev_condD rfl (fun hlt => ?_) (fun hlt => ?_)
  · have hlt : i < cl.length := by omega
    obtain ⟨c, hc⟩ : ∃ c, c = cl.getD i 0 := ⟨_, rfl⟩
    have hcell : w5.cell? ⟨g, 0 + (i : Int).toNat * 1, none⟩ = some (bv c) := by
      have := hQ.2.2.1.at (j := i) (u := bv c) (by rw [List.getElem?_map, List.getElem?_eq_getElem hlt, hc, List.getD_eq_getElem?_getD, List.getElem?_eq_getElem hlt]; rfl)
      rwa [show 0 + (i : Int).toNat * 1 = 0 + i by omega]
    have hgl : g < w5.heap.size := cell_lt hcell
    have htk : ∀ x, qBy c = x → [34] ++ qAll (cl.take i) ++ x = [34] ++ qAll (cl.take (i + 1)) := fun x hx => by rw [qAll_take hlt, ← hc, hx, List.append_assoc]
    have hix := qBy_idx c
    have hcl8 := c.toNat_lt
    refine sA [] rfl ?_
    refine ev_indexAddr (len := cl.length) (i := i) rfl rfl tabOk rfl rfl rfl (by omega) (by omega) ?_
    refine ev_load rfl rfl tabOk rfl rfl hcell ?_
    refine sA [] rfl ?_
    refine ev_call rfl rfl rfl (wIdx qIn c _) (fun r w6 hr => ?_)
    obtain ⟨rfl, rfl⟩ := hr
    refine sC [] rfl ?_; refine sD [] rfl ?_; refine sD [] rfl ?_; refine sD [] rfl ?_
    refine ev_condD rfl (fun h0 => ?_) (fun h0 => ?_)
    · obtain ⟨h7, hqb⟩ := hix.1 h0
      refine sA [] rfl ?_
      refine ev_call rfl rfl rfl (bdByte b v _ 92 _ hQ.1 (by omega)) (fun r w7 hr => ?_)
      obtain ⟨v7, hB7, hf7, hn7⟩ := hr
      have hQ7 := hQ.step hb hbg hgl hB7 hf7 hn7
      have hgl7 := Nat.lt_of_lt_of_le hgl hf7.size
      refine sA [] rfl ?_; refine ev_index rfl rfl tabOk rfl rfl rfl (by omega) (by omega) ?_
      refine ev_call rfl rfl rfl (bdByte b v7 _ (qOut.getD (Lib.indexByte qIn c).toNat 0) _ hQ7.1 (by rw [List.length_append]; show _ + 1 + 1 ≤ _; omega)) (fun r w8 hr => ?_)
      obtain ⟨v8, hB8, hf8, hn8⟩ := hr
      have hQ8 := hQ7.step hb hbg hgl7 hB8 hf8 hn8
      rw [List.append_assoc, htk _ (by rw [hqb]; rfl)] at hQ8
      refine sA [] rfl ?_; refine ev_arith rfl rfl rfl rfl rfl (by simp only [lowK, hiK]; omega) ?_; refine sA [] rfl ?_
      exact ev_next (i + 1, v8) (by simp only; omega) ⟨hlt, hQ8⟩ ⟨rfl, rfl, rfl, rfl, trivial⟩
    · refine sC [] rfl ?_; refine sD [] rfl ?_; refine sD [] rfl ?_; refine sD [] rfl ?_
      refine ev_cut (α := Value × UInt8 × List UInt8) (fun y => [(3, .pointer (some ⟨b, 0, none⟩)), (5, bv y.2.1), (10, .slice (some ⟨g, 0, none⟩) cl.length cp), (11, .int .i64 cl.length), (12, .int .i64 i)]) (fun y w' => QS w w' b y.1 g ([34] ++ qAll (cl.take i) ++ y.2.2) cl ∧ qBy c = y.2.2 ++ [y.2.1] ∧ y.2.2.length ≤ 5 ∧ g < w'.heap.size) ?_ ?_
      · refine ev_condD rfl (fun h32 => ?_) (fun h32 => ?_)
        · have hqb := hix.2.1 h0 (by omega)
          refine sA [] rfl ?_
          refine ev_call rfl rfl rfl (bdWrite b v _ [92, 117, 48, 48] _ hQ.1 (by show _ + 4 ≤ _; omega)) (fun r w7 hr => ?_)
          obtain ⟨v7, hB7, hf7, hn7⟩ := hr
          have hQ7 := hQ.step hb hbg hgl hB7 hf7 hn7
          have hgl7 := Nat.lt_of_lt_of_le hgl hf7.size
          refine sA [] rfl ?_
          rw [show ((c.toNat : Int)).fdiv (2 ^ 4) = ((c.toNat / 16 : Nat) : Int) by rw [Int.fdiv_eq_ediv_of_nonneg _ (by decide)]; omega]
          skip
          refine ev_index (s := digs) rfl rfl tabOk rfl rfl rfl (by omega) (by show _ < (16 : Int); omega) ?_
          rw [show ((c.toNat / 16 : Nat) : Int).toNat = c.toNat / 16 from rfl]
          refine ev_call rfl rfl rfl (bdByte b v7 _ (digs.getD (c.toNat / 16) 0) _ hQ7.1 (by rw [List.length_append]; show _ + 4 + 1 ≤ _; omega)) (fun r w8 hr => ?_)
          obtain ⟨v8, hB8, hf8, hn8⟩ := hr
          have hQ8 := hQ7.step hb hbg hgl7 hB8 hf8 hn8
          have hgl8 := Nat.lt_of_lt_of_le hgl7 hf8.size
          have e15 : bits .and .u8 (c.toNat : Int) 15 = ((c.toNat % 16 : Nat) : Int) := by
            have h := bits_and8 (a := c.toNat) (b := 15) c.toNat_lt (by decide)
            rw [and15] at h; exact h
          refine sA [] rfl ?_
          rw [e15]
          refine ev_index (s := digs) rfl rfl tabOk rfl rfl rfl (by omega) (by show _ < (16 : Int); omega) ?_
          refine sA [] rfl ?_
          rw [show ((c.toNat % 16 : Nat) : Int).toNat = c.toNat % 16 from rfl]
          exact ev_out (v8, digs.getD (c.toNat % 16) 0, [92, 117, 48, 48, digs.getD (c.toNat / 16) 0]) ⟨by rw [List.append_assoc] at hQ8; exact hQ8, hqb, Nat.le_refl _, hgl8⟩ ⟨rfl, rfl, rfl, rfl, rfl, trivial⟩
        · have hqb := hix.2.2 h0 (by omega)
          refine sA [] rfl ?_
          exact ev_out (v, c, []) ⟨by rw [List.append_nil]; exact hQ, hqb, Nat.zero_le _, hgl⟩ ⟨rfl, rfl, rfl, rfl, rfl, trivial⟩
      · rintro ⟨v7, c7, x7⟩ w7 ⟨hQ7, hqb, hx7, hgl7⟩
        simp only at hQ7 hqb hx7
        refine sA [] rfl ?_
        refine ev_call rfl rfl rfl (bdByte b v7 _ c7 _ hQ7.1 (by rw [List.length_append]; omega)) (fun r w8 hr => ?_)
        obtain ⟨v8, hB8, hf8, hn8⟩ := hr
        have hQ8 := hQ7.step hb hbg hgl7 hB8 hf8 hn8
        rw [List.append_assoc, htk _ hqb] at hQ8
        refine sA [] rfl ?_; refine ev_arith rfl rfl rfl rfl rfl (by simp only [lowK, hiK]; omega) ?_; refine sA [] rfl ?_
        exact ev_next (i + 1, v8) (by simp only; omega) ⟨hlt, hQ8⟩ ⟨rfl, rfl, rfl, rfl, trivial⟩
  · have hie : i = cl.length := by omega
    subst hie
    rw [List.take_length] at hQ hql
    refine sA [] rfl ?_
    refine ev_call rfl rfl rfl (bdByte b v _ 34 _ hQ.1 (by omega)) (fun r w7 hr => ?_)
    obtain ⟨v7, hB7, hf7, hn7⟩ := hr
    have hF7 : Fr no w w7 := hQ.2.2.2.trans hf7 fun c hc z => by
      rcases z with z | z
      · omega
      · have := (hQ.2.1 _ z).1; omega
    refine sA [] rfl ?_
    refine ev_call rfl rfl rfl (bdString b v7 _ _ hB7) (fun r w8 hr => ?_)
    obtain ⟨rfl, hf8⟩ := hr
    have hF8 : Fr no w w8 := hF7.trans hf8 fun c hc z => by
      rcases z with z | z
      · omega
      · rcases hn7 _ z with y | y
        · have := (hQ.2.1 _ y).1; omega
        · have := hQ.2.2.2.size; omega
    refine sA [] rfl ?_
    exact ret1 (.inr rfl) rfl rfl ⟨by unfold quoteF; rw [← hcle], hF8⟩
end Go.Wk.YtpnhfkmgnkdleaaDoor
namespace Go.Wk.YtpnhfkmgnkdleaaDoor
open Go Go.Wk Go.Proofs

set_option maxHeartbeats 4000000 in
theorem refQuote (s : List UInt8) (w : World) (hs : s.length ≤ 1000000000) : CallsF Tryd.prog 36 [sv s] w fun r w' => r = sv (quoteF s) ∧ Fr no w w' := by
  have ne : ∀ {c : UInt8} {k : UInt8}, ¬ c = k → ¬ (c.toNat : Int) = (k.toNat : Int) := fun h e => h (UInt8.toNat_inj.1 (by omega))
  have hcl := clean_len s
  refine callsF Tryd.func36 rfl rfl (by decide) rfl ?_
  refine sA [] rfl ?_
  refine ev_buildSlice tabOk rfl rfl rfl inf5 rfl rfl rfl (by simp [Value.cells]) rfl (fun g w4 hg4 hb4 hf4 => ?_)
  have hb4 : Blk w4 g [bv 34] 5 := hb4
  have hO : Nw w w4 (.slice (some ⟨g, 0, none⟩) 1 1) [34] := ⟨own_of_blk hb4 rfl (by omega), fun x hx => by cases hx; exact hg4, hf4⟩
  refine sA [] rfl ?_
  refine ev_call rfl rfl rfl (refClean s _ (by omega)) (fun r w5 hr => ?_)
  obtain ⟨rfl, hf5⟩ := hr
  have hO := hO.fr hf5
  obtain ⟨cl, hcle⟩ : ∃ c, c = clean s := ⟨_, rfl⟩
  rw [← hcle] at hcl ⊢
  clear hb4 hf4 hf5
  refine sA [] rfl ?_
  refine ev_loop (α := Nat × Value) (fun y => [(0, sv cl), (3, sv digs), (4, y.2), (5, .int .i64 y.1)])
    (fun y w' => y.1 ≤ cl.length ∧ Nw w w' y.2 ([34] ++ qAll (cl.take y.1))) (fun y => cl.length - y.1) (0, _) ⟨rfl, rfl, rfl, rfl, trivial⟩ ⟨Nat.zero_le _, hO⟩ ?_
  clear hO
  rintro ⟨i, v⟩ w6 ⟨hi, hO⟩
  simp only at hi hO
  have hql : ([34] ++ qAll (cl.take i)).length ≤ 6 * i + 1 := by
    have := qAll_len (cl.take i)
    have := take_len cl i
    rw [List.length_append]; show 1 + _ ≤ _; omega
  refine sC [] rfl ?_; refine sC [] rfl ?_
  refine ev_condD rfl (fun hlt => ?_) (fun hlt => ?_)
  · have hlt : i < cl.length := by omega
    refine sA [2] rfl ?_; refine ev_index rfl rfl tabOk rfl rfl rfl (by omega) (by omega) ?_; refine sA [2] rfl ?_
    rw [show ((i : Nat) : Int).toNat = i from rfl]
    obtain ⟨c, hc⟩ : ∃ c, c = cl.getD i 0 := ⟨_, rfl⟩
    rw [← hc]
    have htk : ∀ x, qBy c = x → [34] ++ qAll (cl.take i) ++ x = [34] ++ qAll (cl.take (i + 1)) := fun x hx => by rw [qAll_take hlt, ← hc, hx, List.append_assoc]
    have hcl8 := c.toNat_lt
    clear hc
    refine ev_join1 (α := Value) (fun y => [(0, sv cl), (3, sv digs), (4, y), (5, .int .i64 i)]) (fun y w' => Nw w w' y ([34] ++ qAll (cl.take (i + 1)))) ?_ (fun v5 w5 hO5 => ?_)
    rotate_left
    · refine sA [] rfl ?_; refine ev_arith rfl rfl rfl rfl rfl (by simp only [lowK, hiK]; omega) ?_; refine sA [] rfl ?_
      exact ev_next (i + 1, v5) (by simp only; omega) ⟨hlt, hO5⟩ ⟨rfl, rfl, rfl, by rw [show (i : Int) + 1 = ((i + 1 : Nat) : Int) by omega]; rfl, trivial⟩
    by_cases a34 : c = 34
    · subst a34
      refine sA [] rfl ?_
      refine ev_append1 tabOk rfl rfl (fun _ => rfl) rfl rfl inf5 rfl (by omega) (fun _ => rfl) rfl rfl (by simp [Value.cells]) (by simp [flatV, Value.cells, Value.oneCell']) rfl hO.1 (by omega) (fun v5 w5 g ho5 hf5 hn5 => ?_)
      have hO := hO.app (s := [92, 34]) ho5 hf5 hn5
      rw [htk [92, 34] rfl] at hO
      refine sA [] rfl ?_
      exact ev_out v5 hO ⟨rfl, rfl, rfl, rfl, trivial⟩
    by_cases a92 : c = 92
    · subst a92
      refine sA [] rfl ?_
      refine ev_append1 tabOk rfl rfl (fun _ => rfl) rfl rfl inf5 rfl (by omega) (fun _ => rfl) rfl rfl (by simp [Value.cells]) (by simp [flatV, Value.cells, Value.oneCell']) rfl hO.1 (by omega) (fun v5 w5 g ho5 hf5 hn5 => ?_)
      have hO := hO.app (s := [92, 92]) ho5 hf5 hn5
      rw [htk [92, 92] rfl] at hO
      refine sA [] rfl ?_
      exact ev_out v5 hO ⟨rfl, rfl, rfl, rfl, trivial⟩
    by_cases a8 : c = 8
    · subst a8
      refine sA [] rfl ?_
      refine ev_append1 tabOk rfl rfl (fun _ => rfl) rfl rfl inf5 rfl (by omega) (fun _ => rfl) rfl rfl (by simp [Value.cells]) (by simp [flatV, Value.cells, Value.oneCell']) rfl hO.1 (by omega) (fun v5 w5 g ho5 hf5 hn5 => ?_)
      have hO := hO.app (s := [92, 98]) ho5 hf5 hn5
      rw [htk [92, 98] rfl] at hO
      refine sA [] rfl ?_
      exact ev_out v5 hO ⟨rfl, rfl, rfl, rfl, trivial⟩
    by_cases a9 : c = 9
    · subst a9
      refine sA [] rfl ?_
      refine ev_append1 tabOk rfl rfl (fun _ => rfl) rfl rfl inf5 rfl (by omega) (fun _ => rfl) rfl rfl (by simp [Value.cells]) (by simp [flatV, Value.cells, Value.oneCell']) rfl hO.1 (by omega) (fun v5 w5 g ho5 hf5 hn5 => ?_)
      have hO := hO.app (s := [92, 116]) ho5 hf5 hn5
      rw [htk [92, 116] rfl] at hO
      refine sA [] rfl ?_
      exact ev_out v5 hO ⟨rfl, rfl, rfl, rfl, trivial⟩
    by_cases a10 : c = 10
    · subst a10
      refine sA [] rfl ?_
      refine ev_append1 tabOk rfl rfl (fun _ => rfl) rfl rfl inf5 rfl (by omega) (fun _ => rfl) rfl rfl (by simp [Value.cells]) (by simp [flatV, Value.cells, Value.oneCell']) rfl hO.1 (by omega) (fun v5 w5 g ho5 hf5 hn5 => ?_)
      have hO := hO.app (s := [92, 110]) ho5 hf5 hn5
      rw [htk [92, 110] rfl] at hO
      refine sA [] rfl ?_
      exact ev_out v5 hO ⟨rfl, rfl, rfl, rfl, trivial⟩
    by_cases a12 : c = 12
    · subst a12
      refine sA [] rfl ?_
      refine ev_append1 tabOk rfl rfl (fun _ => rfl) rfl rfl inf5 rfl (by omega) (fun _ => rfl) rfl rfl (by simp [Value.cells]) (by simp [flatV, Value.cells, Value.oneCell']) rfl hO.1 (by omega) (fun v5 w5 g ho5 hf5 hn5 => ?_)
      have hO := hO.app (s := [92, 102]) ho5 hf5 hn5
      rw [htk [92, 102] rfl] at hO
      refine sA [] rfl ?_
      exact ev_out v5 hO ⟨rfl, rfl, rfl, rfl, trivial⟩
    by_cases a13 : c = 13
    · subst a13
      refine sA [] rfl ?_
      refine ev_append1 tabOk rfl rfl (fun _ => rfl) rfl rfl inf5 rfl (by omega) (fun _ => rfl) rfl rfl (by simp [Value.cells]) (by simp [flatV, Value.cells, Value.oneCell']) rfl hO.1 (by omega) (fun v5 w5 g ho5 hf5 hn5 => ?_)
      have hO := hO.app (s := [92, 114]) ho5 hf5 hn5
      rw [htk [92, 114] rfl] at hO
      refine sA [] rfl ?_
      exact ev_out v5 hO ⟨rfl, rfl, rfl, rfl, trivial⟩
    refine sC [] rfl ?_; refine sD [] rfl ?_; refine sD [] rfl ?_; refine sD [] rfl ?_
    rw [show decide ((c.toNat : Int) = 34) = false from decide_eq_false (ne a34)]
    refine sC [] rfl ?_; refine sD [] rfl ?_
    rw [show decide ((c.toNat : Int) = 92) = false from decide_eq_false (ne a92)]
    refine sC [] rfl ?_; refine sD [] rfl ?_; refine sD [] rfl ?_
    rw [show decide ((c.toNat : Int) = 8) = false from decide_eq_false (ne a8)]
    refine sC [] rfl ?_; refine sD [] rfl ?_; refine sD [] rfl ?_
    rw [show decide ((c.toNat : Int) = 9) = false from decide_eq_false (ne a9)]
    refine sC [] rfl ?_; refine sD [] rfl ?_; refine sD [] rfl ?_
    rw [show decide ((c.toNat : Int) = 10) = false from decide_eq_false (ne a10)]
    refine sC [] rfl ?_; refine sD [] rfl ?_; refine sD [] rfl ?_
    rw [show decide ((c.toNat : Int) = 12) = false from decide_eq_false (ne a12)]
    refine sC [] rfl ?_; refine sD [] rfl ?_; refine sD [] rfl ?_
    rw [show decide ((c.toNat : Int) = 13) = false from decide_eq_false (ne a13)]
    refine sC [] rfl ?_; refine sD [] rfl ?_; refine sD [] rfl ?_
    refine ev_condD rfl (fun h32 => ?_) (fun h32 => ?_)
    · have hqb : qBy c = [92, 117, 48, 48, digs.getD (c.toNat / 16) 0, digs.getD (c.toNat % 16) 0] := by
        unfold qBy; rw [if_neg a8, if_neg a9, if_neg a10, if_neg a12, if_neg a13, if_neg a34, if_neg a92, if_pos (by omega)]
      skip
      refine mix_in mixed (fun w7 hf7 => ?_)
      have hO := hO.fr hf7
      refine mA rfl (by kernel_rfl) (by kernel_rfl) ?_
      refine m_quo 3 rfl rfl rfl (by kernel_rfl) (by kernel_rfl) rfl rfl rfl rfl (by omega) (by omega) (by simp only [hiK]; omega) ?_
      refine m_rem 7 rfl rfl rfl (by kernel_rfl) (by kernel_rfl) rfl rfl rfl rfl (by omega) (by omega) ?_
      refine m_index (s := digs) 4 rfl rfl rfl (by kernel_rfl) (by kernel_rfl) rfl rfl tabOk rfl rfl rfl (by omega) (by show _ < (16 : Int); omega) ?_
      refine m_index (s := digs) 8 rfl rfl rfl (by kernel_rfl) (by kernel_rfl) rfl rfl tabOk rfl rfl rfl (by omega) (by show _ < (16 : Int); omega) ?_
      rw [show ((c.toNat : Int) / 16).toNat = c.toNat / 16 by omega, show ((c.toNat : Int) % 16).toNat = c.toNat % 16 by omega]
      refine mix1 rfl rfl ?_
      refine ev_buildSlice tabOk rfl rfl rfl inf5 rfl rfl rfl (by simp [Value.cells]) rfl (fun g w8 hg8 hb8 hf8 => ?_)
      have hO := hO.fr hf8
      refine mix_op ?_
      refine mix1 rfl rfl ?_
      refine ev_append (z := .int .u8 0) (b := 1) (A := some ⟨g, 0, none⟩) (m := 6) (c := 6) (news := ([92, 117, 48, 48, digs.getD (c.toNat / 16) 0, digs.getD (c.toNat % 16) 0] : List UInt8).map bv) tabOk rfl rfl rfl inf5 rfl (by omega) rfl rfl hO.1 (Cs.of_blk hb8) rfl (fun u hu => by obtain ⟨b, _, rfl⟩ := List.mem_map.1 hu; rfl) (by omega) (fun v5 w9 ho5 hf9 hn5 => ?_)
      have hO := hO.app (s := [92, 117, 48, 48, digs.getD (c.toNat / 16) 0, digs.getD (c.toNat % 16) 0]) ho5 hf9 (NB.of hn5)
      rw [htk _ hqb] at hO
      refine mix_op ?_
      refine mA rfl (by kernel_rfl) (by kernel_rfl) ?_
      refine mix_out rfl ?_
      refine sA [] rfl ?_
      exact ev_out v5 hO ⟨rfl, rfl, rfl, rfl, trivial⟩
    · have hqb : qBy c = [c] := by
        unfold qBy; rw [if_neg a8, if_neg a9, if_neg a10, if_neg a12, if_neg a13, if_neg a34, if_neg a92, if_neg (by omega)]
      refine sA [] rfl ?_
      refine ev_append1 tabOk rfl rfl (fun _ => rfl) rfl rfl inf5 rfl (by omega) (fun _ => rfl) rfl rfl (by simp [Value.cells]) (by simp [flatV, Value.cells, Value.oneCell']) rfl hO.1 (by omega) (fun v5 w5 g ho5 hf5 hn5 => ?_)
      have hO := hO.app (s := [c]) ho5 hf5 hn5
      rw [htk _ hqb] at hO
      refine sA [] rfl ?_
      exact ev_out v5 hO ⟨rfl, rfl, rfl, rfl, trivial⟩
  · have hie : i = cl.length := by omega
    subst hie
    rw [List.take_length] at hO hql
    refine sA [] rfl ?_
    refine ev_append1 tabOk rfl rfl (fun _ => rfl) rfl rfl inf5 rfl (by omega) (fun _ => rfl) rfl rfl (by simp [Value.cells]) (by simp [flatV, Value.cells, Value.oneCell']) rfl hO.1 (by omega) (fun v5 w5 g ho5 hf5 hn5 => ?_)
    have hO := hO.app (s := [34]) ho5 hf5 hn5
    obtain ⟨A, cap, rfl, hcs⟩ := own_slice hO.1
    rw [show ([34] ++ qAll cl ++ [34] : List UInt8) = quoteF s by unfold quoteF; rw [← hcle]] at hcs ⊢
    refine ev_strOf rfl rfl tabOk rfl rfl rfl rfl hcs ?_
    refine sA [] rfl ?_
    exact ret1 (.inr rfl) rfl rfl ⟨rfl, hO.2.2⟩
end Go.Wk.YtpnhfkmgnkdleaaDoor
namespace Go.Wk.YtpnhfkmgnkdleaaDoor
open Go Go.Wk Go.Proofs

/-- an escape is read back; its bytes -/
theorem esc_back : ∀ n : Fin 256, (UInt8.ofNat n.val ≠ 34 → UInt8.ofNat n.val ≠ 92 → 32 ≤ n.val → qBy (UInt8.ofNat n.val) = [UInt8.ofNat n.val]) ∧ (qBy (UInt8.ofNat n.val) ≠ [UInt8.ofNat n.val] → n.val < 128 ∧ (qBy (UInt8.ofNat n.val)).getD 0 0 = 92 ∧ 2 ≤ (qBy (UInt8.ofNat n.val)).length ∧ escF (qBy (UInt8.ofNat n.val)) 1 = (true, [UInt8.ofNat n.val], (qBy (UInt8.ofNat n.val)).length)) ∧ (qBy (UInt8.ofNat n.val) = [UInt8.ofNat n.val] → 32 ≤ n.val ∧ UInt8.ofNat n.val ≠ 34 ∧ UInt8.ofNat n.val ≠ 92) := by decide +kernel
theorem back (c : UInt8) : (qBy c ≠ [c] → c.toNat < 128 ∧ (qBy c).getD 0 0 = 92 ∧ 2 ≤ (qBy c).length ∧ escF (qBy c) 1 = (true, [c], (qBy c).length)) ∧ (qBy c = [c] → 32 ≤ c.toNat ∧ c ≠ 34 ∧ c ≠ 92) ∧ (c ≠ 34 → c ≠ 92 → 32 ≤ c.toNat → qBy c = [c]) := by
  have h := esc_back ⟨c.toNat, c.toNat_lt⟩
  simp only [UInt8.ofNat_toNat] at h
  exact ⟨h.2.1, h.2.2, h.1⟩
/-- fourF, escF at a place of a text are those of what stands there -/
theorem getD_shift (a t : List UInt8) (i : Nat) : (a ++ t).getD (a.length + i) 0 = t.getD i 0 := by
  rw [List.getD_eq_getElem?_getD, List.getElem?_append_right (by omega), ← List.getD_eq_getElem?_getD]; congr 1; omega
theorem fourF_shift (a t : List UInt8) (low : Bool) : ∀ (f k : Nat) (n : Int) (q : Nat), fourF (a ++ t) low f k n (a.length + q) = ((fourF t low f k n q).1, (fourF t low f k n q).2.1, a.length + (fourF t low f k n q).2.2)
  | 0, k, n, q => rfl
  | f + 1, k, n, q => by
    have hb : fBad (a ++ t) low k n (a.length + q) ↔ fBad t low k n q := by
      unfold fBad
      rw [getD_shift, List.length_append]
      constructor
      · rintro (z | z)
        · exact .inl (by omega)
        · exact .inr z
      · rintro (z | z)
        · exact .inl (by omega)
        · exact .inr z
    by_cases h : fBad t low k n q
    · rw [fourF_bad h, fourF_bad (hb.2 h)]
    · rw [fourF_go h, fourF_go (fun z => h (hb.1 z)), getD_shift]
      exact fourF_shift a t low f (k + 1) _ (q + 1)
theorem escF_shift (a t : List UInt8) (q : Nat) : escF (a ++ t) (a.length + q) = ((escF t q).1, (escF t q).2.1, a.length + (escF t q).2.2) := by
  have e1 : four (a ++ t) false (a.length + q + 1) = _ := fourF_shift a t false 4 0 0 (q + 1)
  have e2 : four (a ++ t) true (a.length + q + 7) = _ := fourF_shift a t true 4 0 0 (q + 7)
  have g : ∀ i, (a ++ t).getD (a.length + q + i) 0 = t.getD (q + i) 0 := fun i => by rw [Nat.add_assoc]; exact getD_shift a t (q + i)
  have l : ∀ i, a.length + q + i < (a ++ t).length ↔ q + i < t.length := fun i => by rw [List.length_append]; exact ⟨fun _ => by omega, fun _ => by omega⟩
  have g0 := g 0
  have l0 := l 0
  simp only [Nat.add_zero] at g0 l0
  unfold escF
  rw [e1, e2, g0, g 5, g 6]
  simp only []
  by_cases h1 : ¬ q < t.length
  · rw [if_pos h1, if_pos (fun z => h1 (l0.1 z))]
  rw [if_neg h1, if_neg (fun z => h1 (fun y => z (l0.2 y)))]
  by_cases h2 : ltr (t.getD q 0) ≠ 0
  · rw [if_pos h2, if_pos h2]; rfl
  rw [if_neg h2, if_neg h2]
  by_cases h3 : t.getD q 0 ≠ 117
  · rw [if_pos h3, if_pos h3]
  rw [if_neg h3, if_neg h3]
  by_cases h4 : (four t false (q + 1)).1 = false
  · have h4' : (fourF t false 4 0 0 (q + 1)).1 = false := h4
    rw [if_pos h4', if_pos h4]
  have h4' : ¬ (fourF t false 4 0 0 (q + 1)).1 = false := h4
  rw [if_neg h4', if_neg h4]
  by_cases h5 : 55296 ≤ (four t false (q + 1)).2.1 ∧ (four t false (q + 1)).2.1 < 56320
  · have h5' : 55296 ≤ (fourF t false 4 0 0 (q + 1)).2.1 ∧ (fourF t false 4 0 0 (q + 1)).2.1 < 56320 := h5
    rw [if_pos h5', if_pos h5]
    by_cases h6 : ¬ (q + 5 < t.length ∧ t.getD (q + 5) 0 = 92)
    · rw [if_pos h6, if_pos (fun z => h6 ⟨(l 5).1 z.1, z.2⟩)]; rfl
    rw [if_neg h6, if_neg (fun z => h6 (fun y => z ⟨(l 5).2 y.1, y.2⟩))]
    by_cases h7 : ¬ (q + 6 < t.length ∧ t.getD (q + 6) 0 = 117)
    · rw [if_pos h7, if_pos (fun z => h7 ⟨(l 6).1 z.1, z.2⟩)]; rfl
    rw [if_neg h7, if_neg (fun z => h7 (fun y => z ⟨(l 6).2 y.1, y.2⟩))]
    by_cases h8 : (four t true (q + 7)).1 = false
    · have h8' : (fourF t true 4 0 0 (q + 7)).1 = false := h8
      rw [if_pos h8', if_pos h8]
    have h8' : ¬ (fourF t true 4 0 0 (q + 7)).1 = false := h8
    rw [if_neg h8', if_neg h8]; rfl
  · have h5' : ¬ (55296 ≤ (fourF t false 4 0 0 (q + 1)).2.1 ∧ (fourF t false 4 0 0 (q + 1)).2.1 < 56320) := h5
    rw [if_neg h5', if_neg h5]; rfl
/-- a byte of high value is quoted as it is -/
theorem qBy_high {c : UInt8} (h : 128 ≤ c.toNat) : qBy c = [c] := (back c).2.2 (fun e => by rw [e] at h; revert h; decide) (fun e => by rw [e] at h; revert h; decide) (by omega)
theorem qAll_high : ∀ {s : List UInt8}, (∀ c ∈ s, 128 ≤ c.toNat) → qAll s = s
  | [], _ => rfl
  | c :: r, h => by
    have h1 := qBy_high (h c (by simp))
    have h2 := qAll_high (s := r) fun d hd => h d (by simp [hd])
    simp only [qAll, List.flatMap_cons] at h2 ⊢
    rw [h1, h2]; rfl
/-- one character of a clean text -/
theorem qOne {l : List UInt8} (hg : good l) (a rest : List UInt8) (ha : a ≠ []) : oneF (a ++ (qAll (l.take (wid l)) ++ rest)) a.length = (true, l.take (wid l), a.length + (qAll (l.take (wid l))).length) ∧ 32 ≤ ((a ++ (qAll (l.take (wid l)) ++ rest)).getD a.length 0).toNat ∧ (a ++ (qAll (l.take (wid l)) ++ rest)).getD a.length 0 ≠ 34 ∧ 0 < (qAll (l.take (wid l))).length := by
  have hw : wid l = fits l := if_pos hg
  have hfl := fits_le l
  have fs := fits_spec l
  have hl0 : 0 < l.length := by have := hg.1; omega
  have g0 : ∀ x : List UInt8, (a ++ x).getD a.length 0 = x.getD 0 0 := fun x => getD_shift a x 0
  obtain ⟨c, r, rfl⟩ : ∃ c r, l = c :: r := by cases l with | nil => simp at hl0 | cons c r => exact ⟨c, r, rfl⟩
  have hc0 : (c :: r : List UInt8).getD 0 0 = c := rfl
  rw [hc0] at hfl
  by_cases hs : wid (c :: r) = 1
  · -- one byte
    have hsz : siz c = 1 := by have := hg.2; rw [hc0] at this; omega
    have hlt : c.toNat < 128 := by
      rcases Nat.lt_or_ge c.toNat 128 with z | z
      · exact z
      · exfalso; unfold siz at hsz; rw [if_neg (by omega)] at hsz; (repeat' split at hsz) <;> omega
    rw [hs, show (c :: r : List UInt8).take 1 = [c] from rfl, show qAll [c] = qBy c from List.append_nil _]
    by_cases hq : qBy c = [c]
    · obtain ⟨b1, b2, b3⟩ := (back c).2.1 hq
      have hh : (a ++ (qBy c ++ rest)).getD a.length 0 = c := by rw [g0, hq]; rfl
      refine ⟨?_, by rw [hh]; exact b1, by rw [hh]; exact b2, by rw [hq]; simp⟩
      unfold oneF
      rw [hh, if_neg b3]
      unfold charF
      have hd : (a ++ (qBy c ++ rest)).drop a.length = c :: rest := by rw [List.drop_append_of_le_length (Nat.le_refl _), List.drop_length, hq]; rfl
      obtain ⟨h1, h2⟩ := asc_siz (b := c) hlt
      have hg2 : good (c :: rest) ∧ wid (c :: rest) = 1 := by
        have hf : fits (c :: rest) = 1 := fits_of (fun j hj => by rcases (show j = 0 by omega) with rfl; exact ⟨by simp, by show 0 < siz c; omega, .inl rfl⟩) (fun z => by have : 1 < siz c := z.2.1; omega)
        have : good (c :: rest) := ⟨by omega, by rw [hf]; exact h1.symm⟩
        exact ⟨this, by unfold wid; rw [if_pos this, hf]⟩
      rw [hd, if_pos hg2.1, hg2.2, hq]; rfl
    · obtain ⟨b1, b2, b3, b4⟩ := (back c).1 hq
      have hh : (a ++ (qBy c ++ rest)).getD a.length 0 = 92 := by
        rw [g0, List.getD_eq_getElem?_getD, List.getElem?_append_left (by omega), ← List.getD_eq_getElem?_getD]; exact b2
      refine ⟨?_, by rw [hh]; decide, by rw [hh]; decide, by omega⟩
      unfold oneF
      rw [hh, if_pos rfl]
      have hag : Agr (qBy c) (qBy c ++ rest) (qBy c).length := ⟨Nat.le_refl _, by rw [List.length_append]; omega, fun i hi => by rw [List.getD_eq_getElem?_getD, List.getD_eq_getElem?_getD, List.getElem?_append_left hi]⟩
      have he := escF_agr hag (q := 1) (fun _ => by rw [b4]; exact Nat.le_refl _) (fun z => by rw [b4] at z; cases z)
      rw [escF_shift a (qBy c ++ rest) 1, he, b4]
  · -- more
    have hsz : 2 ≤ siz c := by have := hg.2; rw [hc0] at this; have := hg.1; omega
    have hhi : ∀ d ∈ (c :: r : List UInt8).take (wid (c :: r)), 128 ≤ d.toNat := fun d hd => by
      obtain ⟨j, hj, rfl⟩ := List.getElem_of_mem hd
      rw [List.length_take] at hj
      have hjl : j < (c :: r : List UInt8).length := by omega
      have e9 : ((c :: r : List UInt8).take (wid (c :: r)))[j] = (c :: r : List UInt8).getD j 0 := by
        rw [List.getElem_take, List.getD_eq_getElem?_getD, List.getElem?_eq_getElem hjl]; rfl
      rw [e9]
      rcases Nat.eq_zero_or_pos j with rfl | hj0
      · show 128 ≤ c.toNat
        rcases Nat.lt_or_ge c.toNat 128 with z | z
        · exfalso; unfold siz at hsz; rw [if_pos z] at hsz; omega
        · exact z
      · have hgo := fs.1 j (by omega)
        rcases hgo.2.2 with z | z
        · omega
        · have := z.1
          unfold latLo at this
          (repeat' split at this) <;> omega
    have hqa := qAll_high hhi
    rw [hqa]
    have hlen : ((c :: r : List UInt8).take (wid (c :: r))).length = wid (c :: r) := by rw [List.length_take]; omega
    have h0 : (a ++ ((c :: r : List UInt8).take (wid (c :: r)) ++ rest)).getD a.length 0 = c := by
      rw [g0]
      have hwp := wid_pos (c :: r)
      obtain ⟨m, hm⟩ : ∃ m, wid (c :: r) = m + 1 := ⟨wid (c :: r) - 1, by omega⟩
      rw [hm]; rfl
    have hc128 : 128 ≤ c.toNat := by
      rcases Nat.lt_or_ge c.toNat 128 with z | z
      · exfalso; unfold siz at hsz; rw [if_pos z] at hsz; omega
      · exact z
    refine ⟨?_, by rw [h0]; omega, by rw [h0]; exact fun e => by rw [e] at hc128; revert hc128; decide, by rw [hlen]; exact wid_pos _⟩
    unfold oneF
    rw [h0, if_neg (fun e => by rw [e] at hc128; revert hc128; decide)]
    unfold charF
    have hd : (a ++ ((c :: r : List UInt8).take (wid (c :: r)) ++ rest)).drop a.length = (c :: r : List UInt8).take (wid (c :: r)) ++ rest := by rw [List.drop_append_of_le_length (Nat.le_refl _), List.drop_length]; rfl
    rw [hd]
    obtain ⟨l, hl⟩ : ∃ l, l = (c :: r : List UInt8) := ⟨_, rfl⟩
    rw [← hl] at hg hw fs hlen hd ⊢
    have gl : ∀ j, j < wid l → (l.take (wid l) ++ rest).getD j 0 = l.getD j 0 := fun j hj => by
      rw [List.getD_eq_getElem?_getD, List.getElem?_append_left (by omega), List.getElem?_take, if_pos hj, ← List.getD_eq_getElem?_getD]
    have hwp := wid_pos l
    have hf2 : fits (l.take (wid l) ++ rest) = wid l := fits_of (fun j hj => by
      have := fs.1 j (by omega)
      exact ⟨by rw [List.length_append]; omega, by rw [gl 0 hwp]; exact this.2.1, by rw [gl 0 hwp, gl j hj]; exact this.2.2⟩) (fun z => by
      have h1 := z.2.1
      rw [gl 0 hwp] at h1
      have := hg.2
      omega)
    have hg2 : good (l.take (wid l) ++ rest) := ⟨by omega, by rw [hf2, gl 0 hwp, hw]; exact hg.2⟩
    have hw2 : wid (l.take (wid l) ++ rest) = wid l := by
      have : wid (l.take (wid l) ++ rest) = fits (l.take (wid l) ++ rest) := if_pos hg2
      omega
    rw [if_pos hg2, hw2, List.take_append_of_le_length (by omega), List.take_of_length_le (by omega), hlen]
theorem good_rep (y : List UInt8) : good (repl ++ y) := by
  have g : ∀ j, j < 3 → (repl ++ y).getD j 0 = repl.getD j 0 := fun j hj => by
    rw [List.getD_eq_getElem?_getD, List.getElem?_append_left (show j < repl.length from hj), ← List.getD_eq_getElem?_getD]
  have hf : fits (repl ++ y) = 3 := fits_of (fun j hj => by
    have h := (by decide : ∀ j, j < 3 → goes repl j) j hj
    exact ⟨by rw [List.length_append]; have : repl.length = 3 := rfl; omega, by rw [g 0 (by omega)]; exact h.2.1, by rw [g 0 (by omega), g j hj]; exact h.2.2⟩) (fun h => by
    have := h.2.1
    rw [g 0 (by decide)] at this
    revert this; decide)
  exact ⟨by omega, by rw [hf, g 0 (by decide)]; decide⟩
/-- a clean text's first character is one -/
theorem clean_first {l : List UInt8} (h : clean l = l) (h0 : 0 < l.length) : good l ∧ clean (l.drop (wid l)) = l.drop (wid l) := by
  have h1 := clean_cons h0
  by_cases hg : good l
  · rw [if_pos hg, h] at h1
    refine ⟨hg, ?_⟩
    have h2 : l.take (wid l) ++ l.drop (wid l) = l.take (wid l) ++ clean (l.drop (wid l)) := by rw [List.take_append_drop]; exact h1
    exact (List.append_cancel_left h2).symm
  · rw [if_neg hg, h] at h1
    exact absurd (h1 ▸ good_rep _) hg
theorem qAll_app (a b : List UInt8) : qAll (a ++ b) = qAll a ++ qAll b := List.flatMap_append
theorem read_back : ∀ (m : Nat) (l a out : List UInt8), l.length ≤ m → clean l = l → a ≠ [] → ∀ f, (a ++ (qAll l ++ [34])).length < f + a.length → readF f (a ++ (qAll l ++ [34])) a.length out = (true, out ++ l, (a ++ (qAll l ++ [34])).length)
  | m, l, a, out, hm, hcl, ha, 0, hf => by simp only [List.length_append] at hf; omega
  | m, l, a, out, hm, hcl, ha, f + 1, hf => by
    by_cases h0 : l = []
    · subst h0
      have hlen : (a ++ (qAll [] ++ [34])).length = a.length + 1 := by rw [List.length_append]; rfl
      have hg : (a ++ (qAll [] ++ [34])).getD a.length 0 = 34 := getD_shift a _ 0
      unfold readF
      rw [hlen, hg, if_neg (fun z => z (by omega)), if_neg (by decide), if_pos rfl, if_neg (by omega), List.append_nil]
    · have hl0 : 0 < l.length := List.length_pos_iff.2 h0
      obtain ⟨hg, hcd⟩ := clean_first hcl hl0
      have hw1 := wid_pos l
      have hw2 := wid_le hl0
      have e : qAll l ++ [34] = qAll (l.take (wid l)) ++ (qAll (l.drop (wid l)) ++ [34]) := by rw [← List.append_assoc, ← qAll_app, List.take_append_drop]
      obtain ⟨q1, q2, q3, q4⟩ := qOne hg a (qAll (l.drop (wid l)) ++ [34]) ha
      rw [← e] at q1 q2 q3
      unfold readF
      rw [if_neg (fun z => z (by rw [List.length_append, e, List.length_append]; omega)), if_neg (by omega), if_neg q3, q1, if_pos rfl]
      have e2 : a ++ (qAll l ++ [34]) = (a ++ qAll (l.take (wid l))) ++ (qAll (l.drop (wid l)) ++ [34]) := by rw [e, List.append_assoc]
      have hla : a.length + (qAll (l.take (wid l))).length = (a ++ qAll (l.take (wid l))).length := by rw [List.length_append]
      rw [e2] at hf ⊢
      simp only []
      rw [hla]
      cases m with
      | zero => omega
      | succ m =>
        rw [read_back m (l.drop (wid l)) (a ++ qAll (l.take (wid l))) (out ++ l.take (wid l)) (by rw [List.length_drop]; omega) hcd (by intro z; exact ha (List.append_eq_nil_iff.1 z).1) f (by rw [← hla]; omega), List.append_assoc, List.take_append_drop]
theorem unq_quote (s : List UInt8) : unqR (quoteF s) = [.string (sOf (clean s)), .int .i64 0, .int .i64 0] := by
  have h := read_back (clean s).length (clean s) [34] [] (Nat.le_refl _) (clean_clean s) (by simp) ((quoteF s).length + 1) (by unfold quoteF; rw [List.append_assoc]; exact Nat.lt_of_lt_of_le (Nat.lt_succ_self _) (Nat.le_add_right _ _))
  have e : [34] ++ (qAll (clean s) ++ [34]) = quoteF s := by unfold quoteF; rw [List.append_assoc]
  rw [e] at h
  have h2 : unqF (quoteF s) = (true, clean s, (quoteF s).length) := by
    unfold unqF
    rw [if_pos ⟨by unfold quoteF; simp, rfl⟩]
    exact h
  unfold unqR
  rw [h2]; rfl
theorem lawQuotes (s : List UInt8) (w : World) (hs : s.length ≤ 10000000) (hT : UT w) :
    CallsF Tryd.prog 11 [sv s] w fun r w' => r = .bool true ∧ Fr no w w' := by
  have hcl := clean_len s
  have hql := qAll_len (clean s)
  refine callsF Tryd.func11 rfl rfl (by decide) rfl ?_
  refine sA [] rfl ?_
  refine ev_call rfl rfl rfl (lawAwake _ hT) (fun r w1 hr => ?_)
  obtain ⟨rfl, hf1⟩ := hr
  have hT1 := hT.fr0 hf1
  refine sA [] rfl ?_
  refine ev_call rfl rfl rfl (wQuote s _ (by omega) hT1) (fun r w2 hr => ?_)
  obtain ⟨rfl, hf2⟩ := hr
  have hT2 := hT1.fr0 hf2
  have hf2 := hf1.tr hf2
  refine sA [] rfl ?_
  refine ev_call rfl rfl rfl (wUnquote (quoteF s) _ (by unfold quoteF; simp only [List.length_append, List.length_cons, List.length_nil]; omega) hT2) (fun r w3 hr => ?_)
  obtain ⟨rfl, hf3⟩ := hr
  rw [unq_quote]
  have hT3 := hT2.fr0 hf3
  have hf3 := hf2.tr hf3
  refine sA [] rfl ?_
  refine ev_call rfl rfl rfl (refQuote s _ (by omega)) (fun r w4 hr => ?_)
  obtain ⟨rfl, hf4⟩ := hr
  have hT4 := hT3.fr0 hf4
  have hf4 := hf3.tr hf4
  refine sD [] rfl ?_; refine sD [] rfl ?_
  rw [show decide (quoteF s = quoteF s) = true from decide_eq_true rfl]
  refine sA [] rfl ?_
  refine ev_call rfl rfl rfl (wClean s _ (by omega) hT4) (fun r w5 hr => ?_)
  obtain ⟨rfl, hf5⟩ := hr
  have hf5 := hf4.tr hf5
  refine sD [] rfl ?_; refine sD [] rfl ?_; refine sD [] rfl ?_
  rw [show decide (clean s = clean s) = true from decide_eq_true rfl]
  refine sA [] rfl ?_
  exact ret1 (.inr rfl) rfl rfl ⟨rfl, hf5⟩
end Go.Wk.YtpnhfkmgnkdleaaDoor
