/-
  Chapter 17: the reader of a model: the walk.
-/
import Derived.Test.YtdelgnflcfhhkaaGreatDoorFlJ
set_option linter.unusedVariables false
namespace Go.Wk.YtdelgnflcfhhkaaGreatDoor
open Go Go.Wk Go.Proofs

/-- a model that was read -/
def RawM (w0 w : World) (m : LM) : Prop := ∃ Q, OM w0 w (.slice m.bA m.bs.length m.bc) (.slice m.mA m.V.merges.length m.mc) (.slice m.tA m.V.texts.length m.tc) Q ∧ Q.Perm m.all ∧
  Own w 9 1 (.slice m.tA m.V.texts.length m.tc) m.V.texts.length (m.V.texts.map sv) ∧ Own w 100 3 (.slice m.mA m.V.merges.length m.mc) m.V.merges.length (mcs m.V.merges) ∧ Own w 73 17 (.slice m.bA m.bs.length m.bc) m.bs.length (m.bs.flatMap bkC)
theorem bind_eq {α β : Type} (r : Rdr α) (f : α → Rdr β) (t : List UInt8) (x : Sc) : r.bind f t x = f (r t x).2 t (r t x).1 := rfl
theorem ret_eq {α : Type} (a : α) (t : List UInt8) (x : Sc) : Rdr.ret a t x = (x, a) := rfl
theorem rHead_eq (t : List UInt8) (x : Sc) : rHead t x = ((rChk (decide (okS (mkShp (rRep (rNum 2) 6 t x).2))) 160 t (rRep (rNum 2) 6 t x).1).1, mkShp (rRep (rNum 2) 6 t x).2) := by
  unfold rHead
  rw [bind_eq, bind_eq, ret_eq]
theorem rMod_eq (t : List UInt8) (x : Sc) : rMod t x = rBody (rHead t x).2 (halfS (rHead t x).2) t (rHead t x).1 := by
  unfold rMod
  rw [bind_eq]
theorem rBody_of {s : Shp} {h : Int} {t : List UInt8} {x x1 x2 x3 x4 x5 x6 x7 x8 x9 x10 : Sc} {es ls : Int} {V : VV} {e c n be g u : List Int8} {bs : List (Bk (List Int8))}
    (h1 : (x1, es) = rNum 1 t x) (h2 : (x2, ls) = rNum 1 t x1) (h3 : (x3, V) = rVoc s.voc.toNat t x2) (h4 : (x4, e) = rRow (s.voc * s.dim) t x3) (h5 : (x5, c) = rRow (s.ctx * h) t x4) (h6 : (x6, n) = rRow (s.ctx * h) t x5)
    (h7 : (x7, bs) = rRep (rBlk s) s.lay.toNat t x6) (h8 : (x8, be) = rRow 256 t x7) (h9 : (x9, g) = rRow s.dim t x8) (h10 : (x10, u) = rRow (s.voc * s.dim) t x9) :
    rBody s h t x = (x10, ⟨s, V, e, es, c, n, bs, be, g, u, ls⟩) := by
  unfold rBody
  simp only [bind_eq, ret_eq, ← h1, ← h2, ← h3, ← h4, ← h5, ← h6, ← h7, ← h8, ← h9, ← h10]
theorem rVoc_of {n : Nat} {t : List UInt8} {x x1 x2 x3 : Sc} {l : List (List UInt8)} {k : Int} {g : List Mrg} (h1 : (x1, l) = rRep rTxt n t x) (h2 : (x2, k) = rNum 2 t x1) (h3 : (x3, g) = rRepG rMrg k.toNat t (rChk (decide (k ≤ 1024)) 131 t x2).1) :
    rVoc n t x = (x3, ⟨l, g⟩) := by
  unfold rVoc
  simp only [bind_eq, ret_eq, ← h1, ← h2, ← h3]
theorem rBlk_of {s : Shp} {t : List UInt8} {x x1 x2 : Sc} {l : List Int} {g : List (List Int8)} (h1 : (x1, l) = rRep (rNum 1) 8 t x) (h2 : (x2, g) = rRows (manyQ s) 9 t x1) : rBlk s t x = (x2, mkBk l g) := by
  unfold rBlk
  simp only [bind_eq, ret_eq, ← h1, ← h2]
theorem rMrg_of {t : List UInt8} {x x1 x2 x3 : Sc} {a b c : Int} (h1 : (x1, a) = rNum 2 t x) (h2 : (x2, b) = rNum 2 t x1) (h3 : (x3, c) = rNum 2 t x2) : rMrg t x = (x3, (a, b, c)) := by
  unfold rMrg
  simp only [bind_eq, ret_eq, ← h1, ← h2, ← h3]
theorem repG_y {α : Type} {r : Rdr α} {k : Nat} {t : List UInt8} {x x1 x2 : Sc} {l : List α} {a : α} (h1 : (x1, l) = rRepG r k t x) (h0 : x1.e = 0) (h2 : (x2, a) = r t x1) : rRepG r (k + 1) t x = (x2, l ++ [a]) := by
  show (rRepG r k).bind _ t x = _
  rw [bind_eq, ← h1]
  unfold rIf
  rw [if_pos h0, bind_eq, ← h2, ret_eq]
theorem repG_n {α : Type} {r : Rdr α} {k : Nat} {t : List UInt8} {x x1 : Sc} {l : List α} (h1 : (x1, l) = rRepG r k t x) (h0 : x1.e ≠ 0) : rRepG r (k + 1) t x = (x1, l) := by
  show (rRepG r k).bind _ t x = _
  rw [bind_eq, ← h1]
  unfold rIf
  rw [if_neg h0]
theorem num2_bd {t : List UInt8} {x x1 : Sc} {n : Int} (h : (x1, n) = rNum 2 t x) : 0 ≤ n ∧ n < 65536 := by
  unfold rNum at h
  split at h
  · injection h with h1 h2
    rw [h2]
    unfold rnV
    split
    · have h3 := leN_lt (cut t x.i (2 : Int).toNat)
      have h4 : (cut t x.i (2 : Int).toNat).length ≤ 2 := by unfold cut; rw [List.length_take]; exact Nat.min_le_left _ _
      have h5 : 256 ^ (cut t x.i (2 : Int).toNat).length ≤ 256 ^ 2 := Nat.pow_le_pow_right (by omega) h4
      omega
    · omega
  · injection h with h1 h2
    omega
theorem frs_perm : ∀ B : List (Bk Rw), (B.flatMap Bk.frs).Perm (B.flatMap Bk.rows)
  | [] => List.Perm.refl _
  | b :: B => by
    rw [List.flatMap_cons, List.flatMap_cons]
    exact (perm9 _ _ _ _ _ _ _ _ _).append (frs_perm B)
theorem zRows (w w' : World) : NR w w' [zB, zB, zB, zB, zB, zB] := ⟨fun r hr => by
  have : r = zB := by simpa using hr
  rw [this]; exact ⟨Own.nil _ _ _, fun g hg => by cases hg⟩, List.pairwise_of_forall_mem_list fun a ha b hb g hg => by
  have : a = zB := by simpa using ha
  rw [this] at hg; cases hg⟩
theorem chk_iff (s : Shp) : chkS s = 0 ↔ okS s := by
  constructor
  · intro e
    by_cases o : okS s
    · exact o
    · rw [chk_n o] at e; cases e
  · exact chk_y
set_option maxHeartbeats 32000000 in
theorem wModel (p q : Nat) (t : List UInt8) (w : World) (h : Rs w p q t ⟨0, 0⟩) (ht : t.length ≤ 140737488355232) :
    CallsF Tryz.prog 53 [ptA p 0] w fun r w' => ∃ m x, r = lmV m ∧ RawM w w' m ∧ Rs w' p q t x ∧ Fr (pq p q) w w' ∧ x.e = endE t (rMod t ⟨0, 0⟩).1 ∧ (x.e = 0 → m.p = (rMod t ⟨0, 0⟩).2) := by
  have hps : p < w.heap.size := h.k.lt
  have hqs : q < w.heap.size := h.r.lt
  refine callsF Tryz.func53 rfl rfl (by decide) rfl ?_
  refine sA [] rfl ?_
  refine ev_alloc rfl rfl inf47 (fun pr w1 hpr kr f1 => ?_)
  have kr : Blk w1 pr (lmC zM) 47 := kr
  have hpr1 : pr < w1.heap.size := kr.lt
  refine sA [] rfl ?_
  refine ev_alloc rfl rfl inf47 (fun pm w2 hpm km f2 => ?_)
  have kr := kr.fr0 f2
  have hpm2 : pm < w2.heap.size := km.lt
  have km : Blk w2 pm (ofC ⟨0, 0, 0, 0, 0, 0⟩ nilS nilS nilS 0 nilS nilS nilS nilS nilS nilS 0) 47 := km
  have hF2 := f1.tr f2
  have hprm : pr ≠ pm := fun e => by omega
  have hprw : w.heap.size ≤ pr := hpr
  have M2 : MS w w2 p q pm t ⟨0, 0⟩ (ofC ⟨0, 0, 0, 0, 0, 0⟩ nilS nilS nilS 0 nilS nilS nilS nilS nilS nilS 0) nilS nilS nilS [] [] [] [] :=
    ⟨h.fr0 hF2, km, OM.start _ _ (NR.nil _ _), Own.nil _ _ _, Own.nil _ _ _, Own.nil _ _ _, hF2.mono fun _ _ z => z.elim, hps, hqs, Nat.le_trans f1.size hpm⟩
  have hkr : ∀ {w' : World} {S : Nat → Prop}, Fr S w2 w' → ¬ S pr → Blk w' pr (lmC zM) 47 := fun hf hn => kr.fr hf hn
  have hnpr : ¬ (pq p q pr ∨ pr = pm) := fun e => by
    rcases e with (e | e) | e <;> omega
  refine sA [] rfl ?_
  refine ev_call rfl rfl rfl (fSizes pm 0 w2) ?_
  rintro r w3 ⟨b, rfl, hb, kb, f3⟩
  have M3 := M2.fr0 f3
  have h23 : Fr (fun c => pq p q c ∨ c = pm) w2 w3 := f3.mono fun _ _ z => z.elim
  have hbn : ¬ (pq p q b ∨ b = pm) := fun e => by
    have := hF2.size
    rcases e with (e | e) | e <;> omega
  clear M2 km
  refine sA [] rfl ?_
  refine ev_loop (α := Nat) (fun k => [(0, ptA p 0), (2, ptA pr 0), (3, ptA pm 0), (17, .slice (some ⟨b, 0, none⟩) 6 6), (18, i64 6), (19, i64 k)])
    (fun k w' => k ≤ 6 ∧ MS w w' p q pm t (rRep (rNum 2) k t ⟨0, 0⟩).1 (ofC (putS ⟨0, 0, 0, 0, 0, 0⟩ 0 (rRep (rNum 2) k t ⟨0, 0⟩).2) nilS nilS nilS 0 nilS nilS nilS nilS nilS nilS 0) nilS nilS nilS [] [] [] [] ∧ Fr (fun c => pq p q c ∨ c = pm) w3 w') (fun k => 6 - k) 0 ⟨rfl, rfl, rfl, rfl, rfl, rfl, trivial⟩ ⟨Nat.zero_le _, M3, Fr.refl _ _⟩ ?_
  clear M3
  rintro k w4 ⟨hk, M4, g4⟩
  have kb4 := kb.fr g4 hbn
  have hrl := rep_len (rNum 2) t ⟨0, 0⟩ k
  have hrs := rep_succ (rNum 2) t ⟨0, 0⟩ k
  obtain ⟨⟨y, l⟩, hy⟩ : ∃ z, z = rRep (rNum 2) k t ⟨0, 0⟩ := ⟨_, rfl⟩
  rw [← hy] at M4 hrl hrs
  simp only at M4 hrl
  refine sC [] rfl ?_; refine sD [] rfl ?_
  refine ev_condD rfl (fun c => ?_) (fun c => ?_)
  · have hk6 : k < 6 := by omega
    have hcb : w4.cell? ⟨b, 0 + (k : Int).toNat * 1, none⟩ = some (ptA pm (0 + k)) := by
      refine kb4.cell ?_
      rw [show 0 + (k : Int).toNat * 1 = k by omega]
      match k, hk6 with
      | 0, _ => rfl
      | 1, _ => rfl
      | 2, _ => rfl
      | 3, _ => rfl
      | 4, _ => rfl
      | 5, _ => rfl
      | k + 6, h => exact absurd h (by omega)
    refine sA [] rfl ?_
    refine ev_indexAddr rfl rfl tabOk rfl rfl rfl (by omega) (by omega) ?_
    refine ev_load rfl rfl tabOk rfl rfl ‹_› ?_; refine sA [] rfl ?_
    refine ev_call rfl rfl rfl (wNum p q t y 2 w4 M4.rs ht) ?_
    rintro r w5 ⟨rfl, r5, g5⟩
    have M5 := M4.rd r5 g5
    have k5 := M5.k
    refine sA [] rfl ?_
    refine ev_store tabOk rfl rfl rfl rfl rfl rfl k5 (blt_of (by show 0 + k < 17; omega)) (fun w6 k6 g6 => ?_)
    rw [setV_eq, Nat.zero_add, setS_at _ _ _ _ _ _ _ _ _ _ _ _ _ k hk6] at k6
    have M6 := M5.set k6 g6
    refine sA [] rfl ?_; refine ev_arith rfl rfl rfl rfl rfl (by simp only [lowK, hiK]; omega) ?_; refine sA [] rfl ?_
    refine ev_next (k + 1) (by omega) ⟨by omega, ?_, (g4.trans g5 fun z _ e => .inl e).trans g6 fun z _ e => .inr e⟩ ⟨rfl, rfl, rfl, rfl, rfl, by rw [show ((k + 1 : Nat) : Int) = (k : Int) + 1 by omega]; rfl, trivial⟩
    rw [hrs, putS_snoc, Nat.zero_add, hrl]
    exact M6
  obtain rfl : k = 6 := by omega
  obtain ⟨a0, a1, a2, a3, a4, a5, rfl⟩ := six6 hrl
  obtain ⟨s, hs⟩ : ∃ s, s = mkShp [a0, a1, a2, a3, a4, a5] := ⟨_, rfl⟩
  have M4 : MS w w4 p q pm t y (ofC s nilS nilS nilS 0 nilS nilS nilS nilS nilS nilS 0) nilS nilS nilS [] [] [] [] := by rw [hs]; exact M4
  have k4 := M4.k
  have hsp : ∀ {w' : World} {tv mv e c n bv b g u : Value} {es ls : Int}, Blk w' pm (ofC s tv mv e es c n bv b g u ls) 47 → Cs w' (some ⟨pm, 0, none⟩) (shpC s) := fun kp => (Cs.of_blk kp).part 0 fun j u hj => by
    match j, hj with
    | 0, h => exact h
    | 1, h => exact h
    | 2, h => exact h
    | 3, h => exact h
    | 4, h => exact h
    | 5, h => exact h
    | n + 6, h => simp at h
  have hs4 := hsp k4
  refine sA [] rfl ?_
  refine ev_loadAgg rfl rfl tabOk rfl rfl rfl hs4 ?_
  refine ev_call rfl rfl rfl (wChk s w4) ?_
  rintro r w5 ⟨rfl, g5⟩
  have M5 := M4.fr0 g5
  refine sA [] rfl ?_
  refine ev_call rfl rfl rfl (wChkR p q t y (decide (chkS s = 0)) 160 w5 M5.rs) ?_
  rintro r w6 ⟨r6, g6⟩
  have M6 := M5.rd r6 g6
  have hdc : decide (chkS s = 0) = decide (okS s) := decide_eq_decide.2 (chk_iff s)
  rw [hdc] at M6
  have hH : rHead t ⟨0, 0⟩ = ((rChk (decide (okS s)) 160 t y).1, s) := by rw [rHead_eq, ← hy, hs]
  have hg2 : Fr (fun c => pq p q c ∨ c = pm) w2 w6 := ((h23.trans g4 fun _ _ e => e).trans g5 fun _ _ z => z.elim).trans g6 fun _ _ e => .inl e
  have hok0 : (rChk (decide (okS s)) 160 t y).1.e = 0 → okS s := fun e => by
    unfold rChk at e
    by_cases o : okS s
    · exact o
    · split at e
      · rw [if_neg (by simp [o])] at e; cases e
      · contradiction
  have hM : rMod t ⟨0, 0⟩ = rBody s (halfS s) t (rChk (decide (okS s)) 160 t y).1 := by rw [rMod_eq, hH]
  rw [hM]
  obtain ⟨x1, hx1⟩ : ∃ x1, x1 = (rChk (decide (okS s)) 160 t y).1 := ⟨_, rfl⟩
  rw [← hx1] at hok0 M6 ⊢
  clear hM hH hx1 hdc hrs hy hs M4 M5 k4 hs4 kb4 g4 g5 g6 hrl kb hbn
  have k6 := M6.rs.k
  have km6 := M6.k
  have kr6 := hkr hg2 hnpr
  refine sA [] rfl ?_; refine ev_loadB rfl rfl tabOk rfl rfl ‹_› (by rfl) ?_; refine sD [] rfl ?_; refine sD [] rfl ?_
  refine ev_condD rfl (fun ce => ?_) (fun ce => ?_)
  · have he : x1.e ≠ 0 := by simpa using ce
    refine sA [] rfl ?_; refine ev_loadAggB rfl rfl tabOk rfl rfl ‹_› (by rfl) ?_
    refine ev_storeAgg tabOk rfl rfl rfl rfl rfl rfl kr6 rfl (fun w7 kr7 g7 => ?_)
    refine sA [] rfl ?_
    have hst := (good_body s (halfS s)).stick t x1 he
    have hFr7 : Fr (pq p q) w w7 := M6.fr.trans g7 fun z hz e => by have e : z = pr := e; omega
    have r7 : Rs w7 p q t x1 := M6.rs.fr g7 (fun e => hnpr (.inl (.inl e.symm))) (fun e => hnpr (.inl (.inr e.symm)))
    refine retG tabOk (.inr rfl) rfl [_] ⟨⟨_, rfl, .inl ⟨rfl, _, rfl, rfl, Cs.of_blk kr7⟩⟩, trivial⟩ ⟨{ zM with s := s }, x1, rfl, ⟨[zB, zB, zB, zB, zB, zB], OM.start _ _ (zRows _ _), List.Perm.refl _, Own.nil _ _ _, Own.nil _ _ _, Own.nil _ _ _⟩, r7, hFr7, ?_, fun e => absurd e he⟩
    rw [hst]; unfold endE; rw [if_neg he]
  have he : x1.e = 0 := by simpa using ce
  have hok := hok0 he
  have hs6 := hsp km6
  clear hok0 he ce
  refine sA [] rfl ?_
  refine ev_loadAgg rfl rfl tabOk rfl rfl rfl hs6 ?_
  refine ev_alloc rfl rfl inf35 (fun pz w7 hpz kz g7 => ?_)
  refine ev_storeAgg tabOk rfl rfl rfl rfl rfl rfl kz rfl (fun w8 kz g8 => ?_)
  have h68 : Fr no w6 w8 := g7.trans g8 fun z hz e => by have : z = pz := e; omega
  have kz : Blk w8 pz (shpC s) 35 := kz
  have M8 := M6.fr0 h68
  have hpz6 : w6.heap.size ≤ pz := hpz
  have hpz6m : pm < w6.heap.size := M6.k.lt
  have hg28 : Fr (fun c => pq p q c ∨ c = pm) w2 w8 := hg2.trans h68 fun _ _ z => z.elim
  clear M6 k6 km6 kr6 hs6 hg2
  refine sA [] rfl ?_
  refine ev_call rfl rfl rfl (wNum p q t x1 1 w8 M8.rs ht) ?_
  rintro r w9 ⟨rfl, r9, g9⟩
  have M9 := M8.rd r9 g9
  obtain ⟨⟨x2, es⟩, h2⟩ : ∃ z, z = rNum 1 t x1 := ⟨_, rfl⟩
  rw [← h2] at M9 ⊢
  refine sA [] rfl ?_
  refine ev_call rfl rfl rfl (wNum p q t x2 1 w9 M9.rs ht) ?_
  rintro r wa ⟨rfl, ra, ga⟩
  have Ma := M9.rd ra ga
  obtain ⟨⟨x3, ls⟩, h3⟩ : ∃ z, z = rNum 1 t x2 := ⟨_, rfl⟩
  rw [← h3] at Ma ⊢
  have ka := Ma.k
  refine sA [] rfl ?_
  refine ev_store tabOk rfl rfl rfl rfl rfl rfl ka rfl (fun wb kb2 gb => ?_)
  have Mb := Ma.set kb2 gb
  have kb3 := Mb.k
  refine sA [] rfl ?_
  refine ev_store tabOk rfl rfl rfl rfl rfl rfl kb3 rfl (fun wc kc2 gc => ?_)
  have kc2 : Blk wc pm (ofC s nilS nilS nilS es nilS nilS nilS nilS nilS nilS ls) 47 := kc2
  have Mc := Mb.set kc2 gc
  have hgc : Fr (fun c => pq p q c ∨ c = pm) w8 wc := (((g9.trans ga fun _ _ e => e).mono fun z _ e => .inl e).trans gb fun z _ e => .inr e).trans gc fun z _ e => .inr e
  have hnpz : ¬ (pq p q pz ∨ pz = pm) := fun e => by
    have h1 := hg28.size
    have h2 := h68.size
    have h3 := M8.size
    rcases e with (e | e) | e
    · omega
    · omega
    · have := hpz6m; omega
  have Kc : Blk wc pr (lmC zM) 47 ∧ Blk wc pz (shpC s) 35 := ⟨(hkr hg28 hnpr).fr hgc hnpr, kz.fr hgc hnpz⟩
  have hv : s.voc = (s.voc.toNat : Nat) := by have := hok.1; omega
  have hvn : s.voc.toNat ≤ 512 := by have := hok.1; omega
  obtain ⟨nv, hnv⟩ : ∃ nv, nv = s.voc.toNat := ⟨_, rfl⟩
  rw [← hnv] at hv hvn
  have hcv : wc.cell? ⟨pz, 0 + 0, none⟩ = some (i64 nv) := by rw [← hv]; exact Kc.2.cell rfl
  have hK1 : ¬ pq p q pr := fun e => hnpr (.inl e)
  have hK2 : ¬ pq p q pz := fun e => hnpz (.inl e)
  clear Ma Mb M8 M9 kb2 kb3 ka gb gc ga g9 hgc
  refine sA [] rfl ?_; refine ev_load rfl rfl tabOk rfl rfl ‹_› ?_; refine sA [] rfl ?_
  refine ev_loop (α := Nat × Value) (fun y => [(0, ptA p 0), (2, ptA pr 0), (3, ptA pm 0), (6, ptA pz 0), (49, i64 nv), (50, i64 y.1)])
    (fun y w' => y.1 ≤ nv ∧ MS w w' p q pm t (rRep rTxt y.1 t x3).1 (ofC s y.2 nilS nilS es nilS nilS nilS nilS nilS nilS ls) nilS nilS y.2 [] (rRep rTxt y.1 t x3).2 [] [] ∧ Blk w' pr (lmC zM) 47 ∧ Blk w' pz (shpC s) 35) (fun y => nv - y.1) (0, nilS) ⟨rfl, rfl, rfl, rfl, rfl, rfl, trivial⟩ ⟨Nat.zero_le _, Mc, Kc⟩ ?_
  clear Mc Kc hcv kc2
  rintro ⟨k, tv⟩ wd ⟨hk, M, K1, K2⟩
  have hk : k ≤ nv := hk
  have hrl := rep_len rTxt t x3 k
  have hrs := rep_succ rTxt t x3 k
  obtain ⟨⟨y, T⟩, hy⟩ : ∃ z, z = rRep rTxt k t x3 := ⟨_, rfl⟩
  simp only at M
  rw [← hy] at M hrl hrs
  simp only at M hrl
  refine sC [] rfl ?_; refine sD [] rfl ?_
  refine ev_condD rfl (fun c => ?_) (fun c => ?_)
  · have hkn : k < nv := by have c : (k : Int) < nv := c; omega
    refine sA [] rfl ?_
    refine mix_in mixed (fun u0 e0 => ?_)
    have M := M.fr0 e0
    have K1 := K1.fr0 e0
    have K2 := K2.fr0 e0
    refine mA rfl (by kernel_rfl) (by kernel_rfl) ?_
    refine mix2 rfl rfl rfl ?_ ?_
    · refine ev_load rfl rfl tabOk rfl rfl (M.k.cell rfl) ?_
      refine mix_op ?_
      refine mix1 rfl rfl ?_
      refine ev_call rfl rfl rfl (wTxt p q t y _ M.rs ht) ?_
      rintro r u1 ⟨rfl, r1, e1⟩
      have M := M.rd r1 e1
      have K1 := K1.fr e1 hK1
      have K2 := K2.fr e1 hK2
      refine mix_op ?_
      refine mix1 rfl rfl ?_
      refine ev_buildSlice tabOk rfl rfl rfl inf9 rfl rfl rfl (fun v hv => by simp at hv; rcases hv with rfl; rfl) rfl (fun d u2 hd kd e2 => ?_)
      have M := M.fr0 e2
      have K1 := K1.fr0 e2
      have K2 := K2.fr0 e2
      refine mix_op ?_
      refine mix1 rfl rfl ?_
      obtain ⟨A, ca, rfl, _, _⟩ := M.tx.slice
      refine ev_append tabOk rfl rfl rfl inf9 rfl (by omega) rfl rfl M.tx (Cs.of_blk kd) rfl (fun u hu => by obtain rfl := List.mem_singleton.1 hu; rfl) (by omega) (fun tv' u3 oT e3 nT => ?_)
      have nT := NB.of nT
      have K1 := K1.fr e3 (fun e => blk_own_ne K1 M.tx e (by decide) rfl)
      have K2 := K2.fr e3 (fun e => blk_own_ne K2 M.tx e (by decide) rfl)
      have M := M.setT oT e3 nT
      obtain ⟨A', ca', rfl, _, _⟩ := oT.slice
      have km := M.k
      refine mix_op ?_
      refine mA rfl (by kernel_rfl) (by kernel_rfl) ?_
      refine mix1 rfl rfl ?_
      refine ev_store tabOk rfl rfl rfl rfl rfl rfl km rfl (fun u4 k4 e4 => ?_)
      have k4 : Blk u4 pm (ofC s (.slice A' (T.length + 1) ca') nilS nilS es nilS nilS nilS nilS nilS nilS ls) 47 := k4
      have M := M.set k4 e4
      have K1 := K1.fr e4 hprm
      have K2 := K2.fr e4 (fun e => hnpz (.inr e))
      refine mix_op ?_
      refine mix_out rfl ?_
      refine sA [] rfl ?_; refine ev_arith rfl rfl rfl rfl rfl (by simp only [lowK, hiK]; omega) ?_; refine sA [] rfl ?_
      refine ev_next (k + 1, .slice A' (T.length + 1) ca') (by show nv - (k + 1) < nv - k; omega) ⟨by show k + 1 ≤ nv; omega, ?_, K1, K2⟩ ⟨rfl, rfl, rfl, rfl, rfl, by show _ = some (i64 ((k + 1 : Nat) : Int)); rw [show ((k + 1 : Nat) : Int) = (k : Int) + 1 by omega]; rfl, trivial⟩
      rw [hrs]
      exact M
    · refine ev_call rfl rfl rfl (wTxt p q t y _ M.rs ht) ?_
      rintro r u1 ⟨rfl, r1, e1⟩
      have M := M.rd r1 e1
      have K1 := K1.fr e1 hK1
      have K2 := K2.fr e1 hK2
      refine mix_op ?_
      refine mix2 rfl rfl rfl ?_ ?_
      · refine ev_load rfl rfl tabOk rfl rfl (M.k.cell rfl) ?_
        refine mix_op ?_
        refine mix1 rfl rfl ?_
        refine ev_buildSlice tabOk rfl rfl rfl inf9 rfl rfl rfl (fun v hv => by simp at hv; rcases hv with rfl; rfl) rfl (fun d u2 hd kd e2 => ?_)
        have M := M.fr0 e2
        have K1 := K1.fr0 e2
        have K2 := K2.fr0 e2
        refine mix_op ?_
        refine mix1 rfl rfl ?_
        obtain ⟨A, ca, rfl, _, _⟩ := M.tx.slice
        refine ev_append tabOk rfl rfl rfl inf9 rfl (by omega) rfl rfl M.tx (Cs.of_blk kd) rfl (fun u hu => by obtain rfl := List.mem_singleton.1 hu; rfl) (by omega) (fun tv' u3 oT e3 nT => ?_)
        have nT := NB.of nT
        have K1 := K1.fr e3 (fun e => blk_own_ne K1 M.tx e (by decide) rfl)
        have K2 := K2.fr e3 (fun e => blk_own_ne K2 M.tx e (by decide) rfl)
        have M := M.setT oT e3 nT
        obtain ⟨A', ca', rfl, _, _⟩ := oT.slice
        have km := M.k
        refine mix_op ?_
        refine mA rfl (by kernel_rfl) (by kernel_rfl) ?_
        refine mix1 rfl rfl ?_
        refine ev_store tabOk rfl rfl rfl rfl rfl rfl km rfl (fun u4 k4 e4 => ?_)
        have k4 : Blk u4 pm (ofC s (.slice A' (T.length + 1) ca') nilS nilS es nilS nilS nilS nilS nilS nilS ls) 47 := k4
        have M := M.set k4 e4
        have K1 := K1.fr e4 hprm
        have K2 := K2.fr e4 (fun e => hnpz (.inr e))
        refine mix_op ?_
        refine mix_out rfl ?_
        refine sA [] rfl ?_; refine ev_arith rfl rfl rfl rfl rfl (by simp only [lowK, hiK]; omega) ?_; refine sA [] rfl ?_
        refine ev_next (k + 1, .slice A' (T.length + 1) ca') (by show nv - (k + 1) < nv - k; omega) ⟨by show k + 1 ≤ nv; omega, ?_, K1, K2⟩ ⟨rfl, rfl, rfl, rfl, rfl, by show _ = some (i64 ((k + 1 : Nat) : Int)); rw [show ((k + 1 : Nat) : Int) = (k : Int) + 1 by omega]; rfl, trivial⟩
        rw [hrs]
        exact M
      · refine ev_buildSlice tabOk rfl rfl rfl inf9 rfl rfl rfl (fun v hv => by simp at hv; rcases hv with rfl; rfl) rfl (fun d u2 hd kd e2 => ?_)
        have M := M.fr0 e2
        have K1 := K1.fr0 e2
        have K2 := K2.fr0 e2
        refine mix_op ?_
        refine mix1 rfl rfl ?_
        refine ev_load rfl rfl tabOk rfl rfl (M.k.cell rfl) ?_
        refine mix_op ?_
        refine mix1 rfl rfl ?_
        obtain ⟨A, ca, rfl, _, _⟩ := M.tx.slice
        refine ev_append tabOk rfl rfl rfl inf9 rfl (by omega) rfl rfl M.tx (Cs.of_blk kd) rfl (fun u hu => by obtain rfl := List.mem_singleton.1 hu; rfl) (by omega) (fun tv' u3 oT e3 nT => ?_)
        have nT := NB.of nT
        have K1 := K1.fr e3 (fun e => blk_own_ne K1 M.tx e (by decide) rfl)
        have K2 := K2.fr e3 (fun e => blk_own_ne K2 M.tx e (by decide) rfl)
        have M := M.setT oT e3 nT
        obtain ⟨A', ca', rfl, _, _⟩ := oT.slice
        have km := M.k
        refine mix_op ?_
        refine mA rfl (by kernel_rfl) (by kernel_rfl) ?_
        refine mix1 rfl rfl ?_
        refine ev_store tabOk rfl rfl rfl rfl rfl rfl km rfl (fun u4 k4 e4 => ?_)
        have k4 : Blk u4 pm (ofC s (.slice A' (T.length + 1) ca') nilS nilS es nilS nilS nilS nilS nilS nilS ls) 47 := k4
        have M := M.set k4 e4
        have K1 := K1.fr e4 hprm
        have K2 := K2.fr e4 (fun e => hnpz (.inr e))
        refine mix_op ?_
        refine mix_out rfl ?_
        refine sA [] rfl ?_; refine ev_arith rfl rfl rfl rfl rfl (by simp only [lowK, hiK]; omega) ?_; refine sA [] rfl ?_
        refine ev_next (k + 1, .slice A' (T.length + 1) ca') (by show nv - (k + 1) < nv - k; omega) ⟨by show k + 1 ≤ nv; omega, ?_, K1, K2⟩ ⟨rfl, rfl, rfl, rfl, rfl, by show _ = some (i64 ((k + 1 : Nat) : Int)); rw [show ((k + 1 : Nat) : Int) = (k : Int) + 1 by omega]; rfl, trivial⟩
        rw [hrs]
        exact M
  have hkn : k = nv := by have c : ¬ (k : Int) < nv := c; omega
  subst hkn
  have M1 := M
  clear hrs M hk hkr hrl
  refine sA [] rfl ?_
  refine ev_call rfl rfl rfl (wNum p q t y 2 wd M1.rs ht) ?_
  rintro r we ⟨rfl, re, ge⟩
  have M2 := M1.rd re ge
  have K1 := K1.fr ge hK1
  have K2 := K2.fr ge hK2
  obtain ⟨⟨x4, ng⟩, h4⟩ : ∃ z, z = rNum 2 t y := ⟨_, rfl⟩
  rw [← h4] at M2 ⊢
  clear M1
  refine sA [] rfl ?_
  refine ev_call rfl rfl rfl (wChkR p q t x4 (decide (ng ≤ 1024)) 131 we M2.rs) ?_
  rintro r wf ⟨rf, gf⟩
  have M3 := M2.rd rf gf
  have K1 := K1.fr gf hK1
  have K2 := K2.fr gf hK2
  obtain ⟨x5, h5⟩ : ∃ z, z = (rChk (decide (ng ≤ 1024)) 131 t x4).1 := ⟨_, rfl⟩
  rw [← h5] at M3
  have hng0 : 0 ≤ ng ∧ ng < 65536 := num2_bd h4
  obtain ⟨gn, hgn⟩ : ∃ gn : Nat, ng = gn := Int.eq_ofNat_of_zero_le hng0.1
  subst hgn
  clear M2
  refine sA [] rfl ?_
  refine ev_loop (α := Nat × Value) (fun z => [(0, ptA p 0), (2, ptA pr 0), (3, ptA pm 0), (6, ptA pz 0), (68, i64 gn), (69, i64 z.1)])
    (fun z w' => z.1 ≤ gn ∧ MS w w' p q pm t (rRepG rMrg z.1 t x5).1 (ofC s tv z.2 nilS es nilS nilS nilS nilS nilS nilS ls) nilS z.2 tv [] T (rRepG rMrg z.1 t x5).2 [] ∧ (rRepG rMrg z.1 t x5).2.length ≤ z.1 ∧ Blk w' pr (lmC zM) 47 ∧ Blk w' pz (shpC s) 35) (fun z => gn - z.1) (0, nilS) ⟨rfl, rfl, rfl, rfl, rfl, rfl, trivial⟩ ⟨Nat.zero_le _, M3, Nat.le_refl _, K1, K2⟩ ?_
  clear M3 K1 K2
  rintro ⟨k, mv⟩ wg ⟨hk, M, hGl, K1, K2⟩
  have hk : k ≤ gn := hk
  simp only at M hGl
  obtain ⟨⟨yg, G⟩, hyg⟩ : ∃ z, z = rRepG rMrg k t x5 := ⟨_, rfl⟩
  rw [← hyg] at M hGl
  simp only at M hGl
  have krs := M.rs.k
  refine sC [] rfl ?_; refine sD [] rfl ?_
  refine ev_condD rfl (fun c => ?_) (fun c => ?_)
  · have hkn : k < gn := by have c : (k : Int) < gn := c; omega
    refine sA [] rfl ?_; refine ev_loadB rfl rfl tabOk rfl rfl ‹_› (by rfl) ?_; refine sD [] rfl ?_; refine sD [] rfl ?_
    refine ev_condD rfl (fun c2 => ?_) (fun c2 => ?_)
    rotate_left
    · have he : yg.e ≠ 0 := by simpa using c2
      refine sA [] rfl ?_; refine ev_arith rfl rfl rfl rfl rfl (by simp only [lowK, hiK]; omega) ?_; refine sA [] rfl ?_
      refine ev_next (k + 1, mv) (by show gn - (k + 1) < gn - k; omega) ⟨by show k + 1 ≤ gn; omega, ?_, ?_, K1, K2⟩ ⟨rfl, rfl, rfl, rfl, rfl, by show _ = some (i64 ((k + 1 : Nat) : Int)); rw [show ((k + 1 : Nat) : Int) = (k : Int) + 1 by omega]; rfl, trivial⟩
      · show MS w wg p q pm t (rRepG rMrg (k + 1) t x5).1 _ nilS mv tv [] T (rRepG rMrg (k + 1) t x5).2 []
        rw [repG_n hyg he]; exact M
      · show (rRepG rMrg (k + 1) t x5).2.length ≤ k + 1
        rw [repG_n hyg he]; exact Nat.le_succ_of_le hGl
    have he : yg.e = 0 := by simpa using c2
    obtain ⟨⟨y1, a⟩, hy1⟩ : ∃ z, z = rNum 2 t yg := ⟨_, rfl⟩
    obtain ⟨⟨y2, b2⟩, hy2⟩ : ∃ z, z = rNum 2 t y1 := ⟨_, rfl⟩
    obtain ⟨⟨y3, d2⟩, hy3⟩ : ∃ z, z = rNum 2 t y2 := ⟨_, rfl⟩
    have hrg := repG_y hyg he (rMrg_of hy1 hy2 hy3).symm
    clear krs
    skip
    refine mix_in mixed (fun u0 e0 => ?_)
    have M := M.fr0 e0
    have K1 := K1.fr0 e0
    have K2 := K2.fr0 e0
    refine mA rfl (by kernel_rfl) (by kernel_rfl) ?_
    refine mix2 rfl rfl rfl ?_ ?_
    · refine ev_load rfl rfl tabOk rfl rfl (M.k.cell rfl) ?_
      refine mix_op ?_
      refine mix1 rfl rfl ?_
      refine ev_call rfl rfl rfl (wNum p q t yg 2 _ M.rs ht) ?_
      rintro r u1 ⟨rfl, r1, e1⟩
      have M := M.rd r1 e1
      have K1 := K1.fr e1 hK1
      have K2 := K2.fr e1 hK2
      rw [← hy1] at M ⊢
      refine mix_op ?_
      refine mix1 rfl rfl ?_
      refine ev_call rfl rfl rfl (wNum p q t y1 2 _ M.rs ht) ?_
      rintro r u1 ⟨rfl, r1, e1⟩
      have M := M.rd r1 e1
      have K1 := K1.fr e1 hK1
      have K2 := K2.fr e1 hK2
      rw [← hy2] at M ⊢
      refine mix_op ?_
      refine mix1 rfl rfl ?_
      refine ev_call rfl rfl rfl (wNum p q t y2 2 _ M.rs ht) ?_
      rintro r u1 ⟨rfl, r1, e1⟩
      have M := M.rd r1 e1
      have K1 := K1.fr e1 hK1
      have K2 := K2.fr e1 hK2
      rw [← hy3] at M ⊢
      refine mix_op ?_
      refine m_build (v := .agg ⟨mrg1 (a, b2, d2)⟩) 9 rfl rfl rfl (by kernel_rfl) (by kernel_rfl) rfl rfl rfl (fun w => by kernel_rfl) ?_
      refine mix1 rfl rfl ?_
      refine ev_buildSlice tabOk rfl rfl rfl inf100 rfl rfl rfl (fun v hv => by simp at hv; rcases hv with rfl; rfl) rfl (fun d u2 hd kd e2 => ?_)
      have kd : Blk u2 d (mrg1 (a, b2, d2)) 100 := kd
      have M := M.fr0 e2
      have K1 := K1.fr0 e2
      have K2 := K2.fr0 e2
      refine mix_op ?_
      refine mix1 rfl rfl ?_
      obtain ⟨A, ca, rfl, _, _⟩ := M.mg.slice
      refine ev_append tabOk rfl rfl rfl inf100 rfl (by omega) rfl rfl M.mg (Cs.of_blk kd) rfl (fun u hu => by
        have hu : u ∈ [i64 a, i64 b2, i64 d2] := hu
        have hu : u = i64 a ∨ u = i64 b2 ∨ u = i64 d2 := by simpa using hu
        rcases hu with rfl | rfl | rfl <;> rfl) (by omega) (fun mv' u3 oT e3 nT => ?_)
      have nT := NB.of nT
      have K1 := K1.fr e3 (fun e => blk_own_ne K1 M.mg e (by decide) rfl)
      have K2 := K2.fr e3 (fun e => blk_own_ne K2 M.mg e (by decide) rfl)
      have oT : Own u3 100 3 mv' (G.length + 1) (mcs (G ++ [(a, b2, d2)])) := by
        have e : mcs (G ++ [(a, b2, d2)]) = mcs G ++ mrg1 (a, b2, d2) := by unfold mcs; rw [List.flatMap_append]; simp
        rw [e]; exact oT
      have M := M.setM oT e3 nT
      obtain ⟨A', ca', rfl, _, _⟩ := oT.slice
      have km := M.k
      refine mix_op ?_
      refine mA rfl (by kernel_rfl) (by kernel_rfl) ?_
      refine mix1 rfl rfl ?_
      refine ev_store tabOk rfl rfl rfl rfl rfl rfl km rfl (fun u4 k4 e4 => ?_)
      have k4 : Blk u4 pm (ofC s tv (.slice A' (G.length + 1) ca') nilS es nilS nilS nilS nilS nilS nilS ls) 47 := k4
      have M := M.set k4 e4
      have K1 := K1.fr e4 hprm
      have K2 := K2.fr e4 (fun e => hnpz (.inr e))
      refine mix_op ?_
      refine mix_out rfl ?_
      refine sA [] rfl ?_; refine ev_arith rfl rfl rfl rfl rfl (by simp only [lowK, hiK]; omega) ?_; refine sA [] rfl ?_
      refine ev_next (k + 1, .slice A' (G.length + 1) ca') (by show gn - (k + 1) < gn - k; omega) ⟨by show k + 1 ≤ gn; omega, ?_, ?_, K1, K2⟩ ⟨rfl, rfl, rfl, rfl, rfl, by show _ = some (i64 ((k + 1 : Nat) : Int)); rw [show ((k + 1 : Nat) : Int) = (k : Int) + 1 by omega]; rfl, trivial⟩
      · show MS w u4 p q pm t (rRepG rMrg (k + 1) t x5).1 _ nilS _ tv [] T (rRepG rMrg (k + 1) t x5).2 []
        rw [hrg]; exact M
      · show (rRepG rMrg (k + 1) t x5).2.length ≤ k + 1
        rw [hrg, List.length_append]; exact Nat.succ_le_succ hGl
    · refine ev_call rfl rfl rfl (wNum p q t yg 2 _ M.rs ht) ?_
      rintro r u1 ⟨rfl, r1, e1⟩
      have M := M.rd r1 e1
      have K1 := K1.fr e1 hK1
      have K2 := K2.fr e1 hK2
      rw [← hy1] at M ⊢
      refine mix_op ?_
      refine mix2 rfl rfl rfl ?_ ?_
      · refine ev_load rfl rfl tabOk rfl rfl (M.k.cell rfl) ?_
        refine mix_op ?_
        refine mix1 rfl rfl ?_
        refine ev_call rfl rfl rfl (wNum p q t y1 2 _ M.rs ht) ?_
        rintro r u1 ⟨rfl, r1, e1⟩
        have M := M.rd r1 e1
        have K1 := K1.fr e1 hK1
        have K2 := K2.fr e1 hK2
        rw [← hy2] at M ⊢
        refine mix_op ?_
        refine mix1 rfl rfl ?_
        refine ev_call rfl rfl rfl (wNum p q t y2 2 _ M.rs ht) ?_
        rintro r u1 ⟨rfl, r1, e1⟩
        have M := M.rd r1 e1
        have K1 := K1.fr e1 hK1
        have K2 := K2.fr e1 hK2
        rw [← hy3] at M ⊢
        refine mix_op ?_
        refine m_build (v := .agg ⟨mrg1 (a, b2, d2)⟩) 9 rfl rfl rfl (by kernel_rfl) (by kernel_rfl) rfl rfl rfl (fun w => by kernel_rfl) ?_
        refine mix1 rfl rfl ?_
        refine ev_buildSlice tabOk rfl rfl rfl inf100 rfl rfl rfl (fun v hv => by simp at hv; rcases hv with rfl; rfl) rfl (fun d u2 hd kd e2 => ?_)
        have kd : Blk u2 d (mrg1 (a, b2, d2)) 100 := kd
        have M := M.fr0 e2
        have K1 := K1.fr0 e2
        have K2 := K2.fr0 e2
        refine mix_op ?_
        refine mix1 rfl rfl ?_
        obtain ⟨A, ca, rfl, _, _⟩ := M.mg.slice
        refine ev_append tabOk rfl rfl rfl inf100 rfl (by omega) rfl rfl M.mg (Cs.of_blk kd) rfl (fun u hu => by
          have hu : u ∈ [i64 a, i64 b2, i64 d2] := hu
          have hu : u = i64 a ∨ u = i64 b2 ∨ u = i64 d2 := by simpa using hu
          rcases hu with rfl | rfl | rfl <;> rfl) (by omega) (fun mv' u3 oT e3 nT => ?_)
        have nT := NB.of nT
        have K1 := K1.fr e3 (fun e => blk_own_ne K1 M.mg e (by decide) rfl)
        have K2 := K2.fr e3 (fun e => blk_own_ne K2 M.mg e (by decide) rfl)
        have oT : Own u3 100 3 mv' (G.length + 1) (mcs (G ++ [(a, b2, d2)])) := by
          have e : mcs (G ++ [(a, b2, d2)]) = mcs G ++ mrg1 (a, b2, d2) := by unfold mcs; rw [List.flatMap_append]; simp
          rw [e]; exact oT
        have M := M.setM oT e3 nT
        obtain ⟨A', ca', rfl, _, _⟩ := oT.slice
        have km := M.k
        refine mix_op ?_
        refine mA rfl (by kernel_rfl) (by kernel_rfl) ?_
        refine mix1 rfl rfl ?_
        refine ev_store tabOk rfl rfl rfl rfl rfl rfl km rfl (fun u4 k4 e4 => ?_)
        have k4 : Blk u4 pm (ofC s tv (.slice A' (G.length + 1) ca') nilS es nilS nilS nilS nilS nilS nilS ls) 47 := k4
        have M := M.set k4 e4
        have K1 := K1.fr e4 hprm
        have K2 := K2.fr e4 (fun e => hnpz (.inr e))
        refine mix_op ?_
        refine mix_out rfl ?_
        refine sA [] rfl ?_; refine ev_arith rfl rfl rfl rfl rfl (by simp only [lowK, hiK]; omega) ?_; refine sA [] rfl ?_
        refine ev_next (k + 1, .slice A' (G.length + 1) ca') (by show gn - (k + 1) < gn - k; omega) ⟨by show k + 1 ≤ gn; omega, ?_, ?_, K1, K2⟩ ⟨rfl, rfl, rfl, rfl, rfl, by show _ = some (i64 ((k + 1 : Nat) : Int)); rw [show ((k + 1 : Nat) : Int) = (k : Int) + 1 by omega]; rfl, trivial⟩
        · show MS w u4 p q pm t (rRepG rMrg (k + 1) t x5).1 _ nilS _ tv [] T (rRepG rMrg (k + 1) t x5).2 []
          rw [hrg]; exact M
        · show (rRepG rMrg (k + 1) t x5).2.length ≤ k + 1
          rw [hrg, List.length_append]; exact Nat.succ_le_succ hGl
      · refine ev_call rfl rfl rfl (wNum p q t y1 2 _ M.rs ht) ?_
        rintro r u1 ⟨rfl, r1, e1⟩
        have M := M.rd r1 e1
        have K1 := K1.fr e1 hK1
        have K2 := K2.fr e1 hK2
        rw [← hy2] at M ⊢
        refine mix_op ?_
        refine mix2 rfl rfl rfl ?_ ?_
        · refine ev_load rfl rfl tabOk rfl rfl (M.k.cell rfl) ?_
          refine mix_op ?_
          refine mix1 rfl rfl ?_
          refine ev_call rfl rfl rfl (wNum p q t y2 2 _ M.rs ht) ?_
          rintro r u1 ⟨rfl, r1, e1⟩
          have M := M.rd r1 e1
          have K1 := K1.fr e1 hK1
          have K2 := K2.fr e1 hK2
          rw [← hy3] at M ⊢
          refine mix_op ?_
          refine m_build (v := .agg ⟨mrg1 (a, b2, d2)⟩) 9 rfl rfl rfl (by kernel_rfl) (by kernel_rfl) rfl rfl rfl (fun w => by kernel_rfl) ?_
          refine mix1 rfl rfl ?_
          refine ev_buildSlice tabOk rfl rfl rfl inf100 rfl rfl rfl (fun v hv => by simp at hv; rcases hv with rfl; rfl) rfl (fun d u2 hd kd e2 => ?_)
          have kd : Blk u2 d (mrg1 (a, b2, d2)) 100 := kd
          have M := M.fr0 e2
          have K1 := K1.fr0 e2
          have K2 := K2.fr0 e2
          refine mix_op ?_
          refine mix1 rfl rfl ?_
          obtain ⟨A, ca, rfl, _, _⟩ := M.mg.slice
          refine ev_append tabOk rfl rfl rfl inf100 rfl (by omega) rfl rfl M.mg (Cs.of_blk kd) rfl (fun u hu => by
            have hu : u ∈ [i64 a, i64 b2, i64 d2] := hu
            have hu : u = i64 a ∨ u = i64 b2 ∨ u = i64 d2 := by simpa using hu
            rcases hu with rfl | rfl | rfl <;> rfl) (by omega) (fun mv' u3 oT e3 nT => ?_)
          have nT := NB.of nT
          have K1 := K1.fr e3 (fun e => blk_own_ne K1 M.mg e (by decide) rfl)
          have K2 := K2.fr e3 (fun e => blk_own_ne K2 M.mg e (by decide) rfl)
          have oT : Own u3 100 3 mv' (G.length + 1) (mcs (G ++ [(a, b2, d2)])) := by
            have e : mcs (G ++ [(a, b2, d2)]) = mcs G ++ mrg1 (a, b2, d2) := by unfold mcs; rw [List.flatMap_append]; simp
            rw [e]; exact oT
          have M := M.setM oT e3 nT
          obtain ⟨A', ca', rfl, _, _⟩ := oT.slice
          have km := M.k
          refine mix_op ?_
          refine mA rfl (by kernel_rfl) (by kernel_rfl) ?_
          refine mix1 rfl rfl ?_
          refine ev_store tabOk rfl rfl rfl rfl rfl rfl km rfl (fun u4 k4 e4 => ?_)
          have k4 : Blk u4 pm (ofC s tv (.slice A' (G.length + 1) ca') nilS es nilS nilS nilS nilS nilS nilS ls) 47 := k4
          have M := M.set k4 e4
          have K1 := K1.fr e4 hprm
          have K2 := K2.fr e4 (fun e => hnpz (.inr e))
          refine mix_op ?_
          refine mix_out rfl ?_
          refine sA [] rfl ?_; refine ev_arith rfl rfl rfl rfl rfl (by simp only [lowK, hiK]; omega) ?_; refine sA [] rfl ?_
          refine ev_next (k + 1, .slice A' (G.length + 1) ca') (by show gn - (k + 1) < gn - k; omega) ⟨by show k + 1 ≤ gn; omega, ?_, ?_, K1, K2⟩ ⟨rfl, rfl, rfl, rfl, rfl, by show _ = some (i64 ((k + 1 : Nat) : Int)); rw [show ((k + 1 : Nat) : Int) = (k : Int) + 1 by omega]; rfl, trivial⟩
          · show MS w u4 p q pm t (rRepG rMrg (k + 1) t x5).1 _ nilS _ tv [] T (rRepG rMrg (k + 1) t x5).2 []
            rw [hrg]; exact M
          · show (rRepG rMrg (k + 1) t x5).2.length ≤ k + 1
            rw [hrg, List.length_append]; exact Nat.succ_le_succ hGl
        · refine ev_call rfl rfl rfl (wNum p q t y2 2 _ M.rs ht) ?_
          rintro r u1 ⟨rfl, r1, e1⟩
          have M := M.rd r1 e1
          have K1 := K1.fr e1 hK1
          have K2 := K2.fr e1 hK2
          rw [← hy3] at M ⊢
          refine mix_op ?_
          refine m_build (v := .agg ⟨mrg1 (a, b2, d2)⟩) 9 rfl rfl rfl (by kernel_rfl) (by kernel_rfl) rfl rfl rfl (fun w => by kernel_rfl) ?_
          refine mix2 rfl rfl rfl ?_ ?_
          · refine ev_load rfl rfl tabOk rfl rfl (M.k.cell rfl) ?_
            refine mix_op ?_
            refine mix1 rfl rfl ?_
            refine ev_buildSlice tabOk rfl rfl rfl inf100 rfl rfl rfl (fun v hv => by simp at hv; rcases hv with rfl; rfl) rfl (fun d u2 hd kd e2 => ?_)
            have kd : Blk u2 d (mrg1 (a, b2, d2)) 100 := kd
            have M := M.fr0 e2
            have K1 := K1.fr0 e2
            have K2 := K2.fr0 e2
            refine mix_op ?_
            refine mix1 rfl rfl ?_
            obtain ⟨A, ca, rfl, _, _⟩ := M.mg.slice
            refine ev_append tabOk rfl rfl rfl inf100 rfl (by omega) rfl rfl M.mg (Cs.of_blk kd) rfl (fun u hu => by
              have hu : u ∈ [i64 a, i64 b2, i64 d2] := hu
              have hu : u = i64 a ∨ u = i64 b2 ∨ u = i64 d2 := by simpa using hu
              rcases hu with rfl | rfl | rfl <;> rfl) (by omega) (fun mv' u3 oT e3 nT => ?_)
            have nT := NB.of nT
            have K1 := K1.fr e3 (fun e => blk_own_ne K1 M.mg e (by decide) rfl)
            have K2 := K2.fr e3 (fun e => blk_own_ne K2 M.mg e (by decide) rfl)
            have oT : Own u3 100 3 mv' (G.length + 1) (mcs (G ++ [(a, b2, d2)])) := by
              have e : mcs (G ++ [(a, b2, d2)]) = mcs G ++ mrg1 (a, b2, d2) := by unfold mcs; rw [List.flatMap_append]; simp
              rw [e]; exact oT
            have M := M.setM oT e3 nT
            obtain ⟨A', ca', rfl, _, _⟩ := oT.slice
            have km := M.k
            refine mix_op ?_
            refine mA rfl (by kernel_rfl) (by kernel_rfl) ?_
            refine mix1 rfl rfl ?_
            refine ev_store tabOk rfl rfl rfl rfl rfl rfl km rfl (fun u4 k4 e4 => ?_)
            have k4 : Blk u4 pm (ofC s tv (.slice A' (G.length + 1) ca') nilS es nilS nilS nilS nilS nilS nilS ls) 47 := k4
            have M := M.set k4 e4
            have K1 := K1.fr e4 hprm
            have K2 := K2.fr e4 (fun e => hnpz (.inr e))
            refine mix_op ?_
            refine mix_out rfl ?_
            refine sA [] rfl ?_; refine ev_arith rfl rfl rfl rfl rfl (by simp only [lowK, hiK]; omega) ?_; refine sA [] rfl ?_
            refine ev_next (k + 1, .slice A' (G.length + 1) ca') (by show gn - (k + 1) < gn - k; omega) ⟨by show k + 1 ≤ gn; omega, ?_, ?_, K1, K2⟩ ⟨rfl, rfl, rfl, rfl, rfl, by show _ = some (i64 ((k + 1 : Nat) : Int)); rw [show ((k + 1 : Nat) : Int) = (k : Int) + 1 by omega]; rfl, trivial⟩
            · show MS w u4 p q pm t (rRepG rMrg (k + 1) t x5).1 _ nilS _ tv [] T (rRepG rMrg (k + 1) t x5).2 []
              rw [hrg]; exact M
            · show (rRepG rMrg (k + 1) t x5).2.length ≤ k + 1
              rw [hrg, List.length_append]; exact Nat.succ_le_succ hGl
          · refine ev_buildSlice tabOk rfl rfl rfl inf100 rfl rfl rfl (fun v hv => by simp at hv; rcases hv with rfl; rfl) rfl (fun d u2 hd kd e2 => ?_)
            have kd : Blk u2 d (mrg1 (a, b2, d2)) 100 := kd
            have M := M.fr0 e2
            have K1 := K1.fr0 e2
            have K2 := K2.fr0 e2
            refine mix_op ?_
            refine mix1 rfl rfl ?_
            refine ev_load rfl rfl tabOk rfl rfl (M.k.cell rfl) ?_
            refine mix_op ?_
            refine mix1 rfl rfl ?_
            obtain ⟨A, ca, rfl, _, _⟩ := M.mg.slice
            refine ev_append tabOk rfl rfl rfl inf100 rfl (by omega) rfl rfl M.mg (Cs.of_blk kd) rfl (fun u hu => by
              have hu : u ∈ [i64 a, i64 b2, i64 d2] := hu
              have hu : u = i64 a ∨ u = i64 b2 ∨ u = i64 d2 := by simpa using hu
              rcases hu with rfl | rfl | rfl <;> rfl) (by omega) (fun mv' u3 oT e3 nT => ?_)
            have nT := NB.of nT
            have K1 := K1.fr e3 (fun e => blk_own_ne K1 M.mg e (by decide) rfl)
            have K2 := K2.fr e3 (fun e => blk_own_ne K2 M.mg e (by decide) rfl)
            have oT : Own u3 100 3 mv' (G.length + 1) (mcs (G ++ [(a, b2, d2)])) := by
              have e : mcs (G ++ [(a, b2, d2)]) = mcs G ++ mrg1 (a, b2, d2) := by unfold mcs; rw [List.flatMap_append]; simp
              rw [e]; exact oT
            have M := M.setM oT e3 nT
            obtain ⟨A', ca', rfl, _, _⟩ := oT.slice
            have km := M.k
            refine mix_op ?_
            refine mA rfl (by kernel_rfl) (by kernel_rfl) ?_
            refine mix1 rfl rfl ?_
            refine ev_store tabOk rfl rfl rfl rfl rfl rfl km rfl (fun u4 k4 e4 => ?_)
            have k4 : Blk u4 pm (ofC s tv (.slice A' (G.length + 1) ca') nilS es nilS nilS nilS nilS nilS nilS ls) 47 := k4
            have M := M.set k4 e4
            have K1 := K1.fr e4 hprm
            have K2 := K2.fr e4 (fun e => hnpz (.inr e))
            refine mix_op ?_
            refine mix_out rfl ?_
            refine sA [] rfl ?_; refine ev_arith rfl rfl rfl rfl rfl (by simp only [lowK, hiK]; omega) ?_; refine sA [] rfl ?_
            refine ev_next (k + 1, .slice A' (G.length + 1) ca') (by show gn - (k + 1) < gn - k; omega) ⟨by show k + 1 ≤ gn; omega, ?_, ?_, K1, K2⟩ ⟨rfl, rfl, rfl, rfl, rfl, by show _ = some (i64 ((k + 1 : Nat) : Int)); rw [show ((k + 1 : Nat) : Int) = (k : Int) + 1 by omega]; rfl, trivial⟩
            · show MS w u4 p q pm t (rRepG rMrg (k + 1) t x5).1 _ nilS _ tv [] T (rRepG rMrg (k + 1) t x5).2 []
              rw [hrg]; exact M
            · show (rRepG rMrg (k + 1) t x5).2.length ≤ k + 1
              rw [hrg, List.length_append]; exact Nat.succ_le_succ hGl
  have hkn : k = gn := by have c : ¬ (k : Int) < gn := c; omega
  subst hkn
  have hVo : (yg, (⟨T, G⟩ : VV)) = rVoc s.voc.toNat t x3 := by
    rw [← hnv]
    exact (rVoc_of (x := x3) hy h4 (by rw [Int.toNat_natCast, ← h5]; exact hyg)).symm
  have M0 := M
  clear krs M hk
  obtain ⟨d1, d2⟩ := hok.2.2.1
  obtain ⟨c1, c2⟩ := hok.2.1
  have hid := hok.2.2.2.2.2.2.2
  have hlay := hok.2.2.2.2.2.2.1
  have hhf := half_bd hok
  have hm1 := mul_bd (a := s.voc) (b := s.dim) (m := 512) (k := 64) (by omega) (by omega) (by omega) (by omega)
  have hm2 := mul_bd (a := s.ctx) (b := halfS s) (m := 512) (k := 32) (by omega) (by omega) (by omega) (by omega)
  have hcz : Cs wg (some ⟨pz, 0, none⟩) (shpC s) := Cs.of_blk K2
  refine sA [] rfl ?_; refine ev_loadAggB rfl rfl tabOk rfl rfl ‹_› (by rfl) ?_
  refine ev_call rfl rfl rfl (wHalf s wg) ?_
  rintro r wh ⟨rfl, gh⟩
  have M := M0.fr0 gh
  have K1 := K1.fr0 gh
  have K2 := K2.fr0 gh
  clear M0 hcz
  obtain ⟨hf, hhfe⟩ : ∃ hf, hf = halfS s := ⟨_, rfl⟩
  rw [← hhfe] at hm2 hhf ⊢
  refine sA [] rfl ?_
  refine mixC_in (fun w' => Blk w' pz (shpC s) 35) mixed (fun u0 e0 => ?_)
  have M := M.fr0 e0
  have K1 := K1.fr0 e0
  have K2 := K2.fr0 e0
  refine mA rfl (by kernel_rfl) (by kernel_rfl) ?_
  refine m_load 2 rfl rfl rfl (by kernel_rfl) (by kernel_rfl) rfl rfl tabOk rfl rfl (fun w' h => h.cell rfl) ?_
  refine m_load 4 rfl rfl rfl (by kernel_rfl) (by kernel_rfl) rfl rfl tabOk rfl rfl (fun w' h => h.cell rfl) ?_
  refine m_load 9 rfl rfl rfl (by kernel_rfl) (by kernel_rfl) rfl rfl tabOk rfl rfl (fun w' h => h.cell rfl) ?_
  refine m_load 15 rfl rfl rfl (by kernel_rfl) (by kernel_rfl) rfl rfl tabOk rfl rfl (fun w' h => h.cell rfl) ?_
  refine m_arith 5 rfl rfl rfl (by kernel_rfl) (by kernel_rfl) rfl rfl rfl rfl rfl (by simp only [lowK, hiK]; omega) ?_
  refine m_arith 11 rfl rfl rfl (by kernel_rfl) (by kernel_rfl) rfl rfl rfl rfl rfl (by simp only [lowK, hiK]; omega) ?_
  refine m_arith 17 rfl rfl rfl (by kernel_rfl) (by kernel_rfl) rfl rfl rfl rfl rfl (by simp only [lowK, hiK]; omega) ?_
  refine mix1 rfl rfl ?_ K2
  refine ev_call rfl rfl rfl (wRow8 p q t yg (s.voc * s.dim) _ M.rs ht) ?_
  rintro r u1 ⟨r1w, rfl, qr1w, or1w, r1, e1⟩
  have M := M.row or1w r1 e1
  have K1 := K1.fr e1 hK1
  have K2 := K2.fr e1 hK2
  obtain ⟨⟨x7, le⟩, h7⟩ : ∃ zz, zz = rRow (s.voc * s.dim) t yg := ⟨_, rfl⟩
  rw [← h7] at M qr1w
  refine mix_op ?_
  refine mix1 rfl rfl ?_ K2
  refine ev_call rfl rfl rfl (wRow8 p q t x7 (s.ctx * hf) _ M.rs ht) ?_
  rintro r u1 ⟨r2w, rfl, qr2w, or2w, r1, e1⟩
  have M := M.row or2w r1 e1
  have K1 := K1.fr e1 hK1
  have K2 := K2.fr e1 hK2
  obtain ⟨⟨x8, lc⟩, h8⟩ : ∃ zz, zz = rRow (s.ctx * hf) t x7 := ⟨_, rfl⟩
  rw [← h8] at M qr2w
  refine mix_op ?_
  refine mix1 rfl rfl ?_ K2
  refine ev_call rfl rfl rfl (wRow8 p q t x8 (s.ctx * hf) _ M.rs ht) ?_
  rintro r u1 ⟨r3w, rfl, qr3w, or3w, r1, e1⟩
  have M := M.row or3w r1 e1
  have K1 := K1.fr e1 hK1
  have K2 := K2.fr e1 hK2
  obtain ⟨⟨x9, ln⟩, h9⟩ : ∃ zz, zz = rRow (s.ctx * hf) t x8 := ⟨_, rfl⟩
  rw [← h9] at M qr3w
  refine mix_op ?_
  refine mA rfl (by kernel_rfl) (by kernel_rfl) ?_
  have km := M.k
  refine mix1 rfl rfl ?_ K2
  refine ev_store tabOk rfl rfl rfl rfl rfl rfl km rfl (fun u4 k4 e4 => ?_)
  have k4 : Blk u4 pm (ofC s tv mv r1w.v es nilS nilS nilS nilS nilS nilS ls) 47 := k4
  have M := M.set k4 e4
  have K1 := K1.fr e4 hprm
  have K2 := K2.fr e4 (fun e => hnpz (.inr e))
  clear km
  refine mix_op ?_
  refine mA rfl (by kernel_rfl) (by kernel_rfl) ?_
  have km := M.k
  refine mix1 rfl rfl ?_ K2
  refine ev_store tabOk rfl rfl rfl rfl rfl rfl km rfl (fun u4 k4 e4 => ?_)
  have k4 : Blk u4 pm (ofC s tv mv r1w.v es r2w.v nilS nilS nilS nilS nilS ls) 47 := k4
  have M := M.set k4 e4
  have K1 := K1.fr e4 hprm
  have K2 := K2.fr e4 (fun e => hnpz (.inr e))
  clear km
  refine mix_op ?_
  refine mA rfl (by kernel_rfl) (by kernel_rfl) ?_
  have km := M.k
  refine mix1 rfl rfl ?_ K2
  refine ev_store tabOk rfl rfl rfl rfl rfl rfl km rfl (fun u4 k4 e4 => ?_)
  have k4 : Blk u4 pm (ofC s tv mv r1w.v es r2w.v r3w.v nilS nilS nilS nilS ls) 47 := k4
  have M := M.set k4 e4
  have K1 := K1.fr e4 hprm
  have K2 := K2.fr e4 (fun e => hnpz (.inr e))
  clear km
  refine mix_op ?_
  refine mix_out rfl ?_ K2
  have hl : s.lay = (s.lay.toNat : Nat) := by omega
  obtain ⟨nl, hnl⟩ : ∃ nl, nl = s.lay.toNat := ⟨_, rfl⟩
  rw [← hnl] at hl
  have hcl : u4.cell? ⟨pz, 0 + 4, none⟩ = some (i64 nl) := by rw [← hl]; exact K2.cell rfl
  obtain ⟨Q0, hQ0⟩ : ∃ Q0, Q0 = [] ++ [r1w] ++ [r2w] ++ [r3w] := ⟨_, rfl⟩
  rw [← hQ0] at M
  have M0 := M
  clear M k4
  refine sA [] rfl ?_; refine ev_load rfl rfl tabOk rfl rfl ‹_› ?_; refine sA [] rfl ?_
  refine ev_loop (α := Nat × Value × List (Bk Rw)) (fun z => [(0, ptA p 0), (2, ptA pr 0), (3, ptA pm 0), (6, ptA pz 0), (116, i64 nl), (117, i64 z.1)])
    (fun z w' => z.1 ≤ nl ∧ z.2.2.length = z.1 ∧ z.2.2.map pBk = (rRep (rBlk s) z.1 t x9).2 ∧ MS w w' p q pm t (rRep (rBlk s) z.1 t x9).1 (ofC s tv mv r1w.v es r2w.v r3w.v z.2.1 nilS nilS nilS ls) z.2.1 mv tv (Q0 ++ z.2.2.flatMap Bk.frs) T G z.2.2 ∧ Blk w' pr (lmC zM) 47 ∧ Blk w' pz (shpC s) 35) (fun z => nl - z.1) (0, nilS, []) ⟨rfl, rfl, rfl, rfl, rfl, rfl, trivial⟩ ⟨Nat.zero_le _, rfl, rfl, by show MS w u4 p q pm t x9 _ nilS mv tv (Q0 ++ []) T G []; rw [List.append_nil]; exact M0, K1, K2⟩ ?_
  clear M0 K1 K2 hcl
  rintro ⟨k, bv, B⟩ wi ⟨hk, hBl, hBx, M, K1, K2⟩
  have hk : k ≤ nl := hk
  have hBl : B.length = k := hBl
  simp only at hBx M
  have hrs := rep_succ (rBlk s) t x9 k
  obtain ⟨⟨z, PB⟩, hz⟩ : ∃ z, z = rRep (rBlk s) k t x9 := ⟨_, rfl⟩
  rw [← hz] at M hBx hrs
  simp only at M hBx
  refine sC [] rfl ?_; refine sD [] rfl ?_
  refine ev_condD rfl (fun c => ?_) (fun c => ?_)
  · have hkn : k < nl := by have c : (k : Int) < nl := c; omega
    refine sA [] rfl ?_
    refine ev_alloc rfl rfl inf73 (fun cb wj hcb kc e0 => ?_)
    have hcl0 : cb < wj.heap.size := kc.lt
    have kc : Blk wj cb (bkC ⟨zB, zB, zB, zB, zB, zB, 0, 0, 0, 0, 0, zB, zB, zB, 0, 0, 0⟩) 73 := kc
    have hbvc : bv.ownBlock ≠ some cb := fun e => by have := M.bk.lt e; omega
    have hcpm : cb ≠ pm := fun e => by have := M.k.lt; omega
    have hcw : w.heap.size ≤ cb := Nat.le_trans M.size hcb
    have hcpr : pr ≠ cb := fun e => by have := K1.lt; omega
    have hcpz : pz ≠ cb := fun e => by have := K2.lt; omega
    have hcpq : ¬ pq p q cb := fun e => by rcases e with e | e <;> omega
    have M := M.fr0 e0
    have K1 := K1.fr0 e0
    have K2 := K2.fr0 e0
    refine sA [] rfl ?_
    refine ev_call rfl rfl rfl (fShifts cb 0 wj) ?_
    rintro r wk ⟨b8, rfl, hb8, kb8, e1⟩
    have M := M.fr0 e1
    have K1 := K1.fr0 e1
    have K2 := K2.fr0 e1
    have kc := kc.fr0 e1
    have hn8 : ¬ (pq p q b8 ∨ b8 = cb) := fun e => by
      have := M.size
      have := e0.size
      rcases e with (e | e) | e <;> omega
    have M0 := M
    have K10 := K1
    have K20 := K2
    obtain ⟨zb, hzb⟩ : ∃ zb : Bk Rw, zb = ⟨zB, zB, zB, zB, zB, zB, 0, 0, 0, 0, 0, zB, zB, zB, 0, 0, 0⟩ := ⟨_, rfl⟩
    rw [← hzb] at kc
    clear M K1 K2
    refine sA [] rfl ?_
    refine ev_loop (α := Nat) (fun j => [(0, ptA p 0), (2, ptA pr 0), (3, ptA pm 0), (6, ptA pz 0), (116, i64 nl), (117, i64 k), (9, ptA cb 0), (119, .slice (some ⟨b8, 0, none⟩) 8 8), (120, i64 8), (121, i64 j)])
      (fun j w' => j ≤ 8 ∧ MS w w' p q pm t (rRep (rNum 1) j t z).1 (ofC s tv mv r1w.v es r2w.v r3w.v bv nilS nilS nilS ls) bv mv tv (Q0 ++ B.flatMap Bk.frs) T G B ∧ Blk w' pr (lmC zM) 47 ∧ Blk w' pz (shpC s) 35 ∧ Blk w' cb (bkC (putH zb 0 (rRep (rNum 1) j t z).2)) 73 ∧ Fr (fun g => pq p q g ∨ g = cb) wk w') (fun j => 8 - j) 0 ⟨rfl, rfl, rfl, rfl, rfl, rfl, rfl, rfl, rfl, rfl, trivial⟩ ⟨Nat.zero_le _, M0, K10, K20, kc, Fr.refl _ _⟩ ?_
    clear M0 K10 K20 kc
    rintro j wl ⟨hj, M, K1, K2, kc, g8⟩
    have kb9 := kb8.fr g8 hn8
    have hjl := rep_len (rNum 1) t z j
    have hjs := rep_succ (rNum 1) t z j
    obtain ⟨⟨yj, lj⟩, hyj⟩ : ∃ u, u = rRep (rNum 1) j t z := ⟨_, rfl⟩
    rw [← hyj] at M kc hjl hjs
    simp only at M kc hjl
    refine sC [] rfl ?_; refine sD [] rfl ?_
    refine ev_condD rfl (fun c2 => ?_) (fun c2 => ?_)
    · have hj8 : j < 8 := by omega
      obtain ⟨o2, ho1, ho2, ho3⟩ := setH_at (putH zb 0 lj) cb (rNum 1 t yj).2 j hj8
      have hcb2 : wl.cell? ⟨b8, 0 + (j : Int).toNat * 1, none⟩ = some (ptA cb o2) := kb9.cell (by rw [nthV_eq, show 0 + (j : Int).toNat * 1 = j by omega]; exact ho1)
      refine sA [] rfl ?_
      refine ev_indexAddr rfl rfl tabOk rfl rfl rfl (by omega) (by omega) ?_
      refine ev_load rfl rfl tabOk rfl rfl ‹_› ?_; refine sA [] rfl ?_
      refine ev_call rfl rfl rfl (wNum p q t yj 1 wl M.rs ht) ?_
      rintro r wm ⟨rfl, r5, g5⟩
      have M := M.rd r5 g5
      have K1 := K1.fr g5 hK1
      have K2 := K2.fr g5 hK2
      have kc := kc.fr g5 hcpq
      refine sA [] rfl ?_
      refine ev_store tabOk rfl rfl rfl rfl rfl rfl kc (blt_of ho2) (fun wn kn gn2 => ?_)
      have M := M.oth kc hcw hcpm hbvc gn2
      have K1 := K1.fr gn2 hcpr
      have K2 := K2.fr gn2 hcpz
      rw [setV_eq, ho3] at kn
      refine sA [] rfl ?_; refine ev_arith rfl rfl rfl rfl rfl (by simp only [lowK, hiK]; omega) ?_; refine sA [] rfl ?_
      refine ev_next (j + 1) (by omega) ⟨by omega, ?_, K1, K2, ?_, (g8.trans g5 fun _ _ e => .inl e).trans gn2 fun _ _ e => .inr e⟩ ⟨rfl, rfl, rfl, rfl, rfl, rfl, rfl, rfl, rfl, by rw [show ((j + 1 : Nat) : Int) = (j : Int) + 1 by omega]; rfl, trivial⟩
      · rw [hjs]; exact M
      · rw [hjs, putH_snoc, Nat.zero_add, hjl]; exact kn
    obtain rfl : j = 8 := by omega
    have g38 := g8
    clear hjs g8
    have hcz : Cs wl (some ⟨pz, 0, none⟩) (shpC s) := Cs.of_blk K2
    refine sA [] rfl ?_; refine ev_loadAggB rfl rfl tabOk rfl rfl ‹_› (by rfl) ?_
    refine ev_call rfl rfl rfl (fLists s cb 0 wl (by omega) (by omega)) ?_
    rintro r wm ⟨b3, c3, rfl, hb3, hc3, kb3, kc3, e3⟩
    have M := M.fr0 e3
    have K1 := K1.fr0 e3
    have K2 := K2.fr0 e3
    have kc := kc.fr0 e3
    have hsl := g38.size
    have hn3 : ¬ (pq p q b3 ∨ b3 = cb) := fun e => by
      have := M.size
      have := e0.size
      have := e1.size
      rcases e with (e | e) | e <;> omega
    have hnc3 : ¬ (pq p q c3 ∨ c3 = cb) := fun e => by
      have := M.size
      have := e0.size
      have := e1.size
      rcases e with (e | e) | e <;> omega
    obtain ⟨bH, hbH⟩ : ∃ bH, bH = putH zb 0 lj := ⟨_, rfl⟩
    rw [← hbH] at kc
    have M0 := M
    have K10 := K1
    have K20 := K2
    have kc0 := kc
    clear M K1 K2 kc hcz
    refine sA [] rfl ?_
    refine ev_loop (α := List Rw) (fun L => [(0, ptA p 0), (2, ptA pr 0), (3, ptA pm 0), (6, ptA pz 0), (116, i64 nl), (117, i64 k), (9, ptA cb 0), (13, .slice (some ⟨c3, 0, none⟩) 9 9), (135, .slice (some ⟨b3, 0, none⟩) 9 9), (136, i64 9), (137, i64 L.length)])
      (fun L w' => L.length ≤ 9 ∧ L.map Rw.xs = (rRows (manyQ s) L.length t yj).2 ∧ MS w w' p q pm t (rRows (manyQ s) L.length t yj).1 (ofC s tv mv r1w.v es r2w.v r3w.v bv nilS nilS nilS ls) bv mv tv (Q0 ++ B.flatMap Bk.frs ++ L) T G B ∧ Blk w' pr (lmC zM) 47 ∧ Blk w' pz (shpC s) 35 ∧ Blk w' cb (bkC (putF bH 0 L)) 73 ∧ Fr (fun g => pq p q g ∨ g = cb) wm w') (fun L => 9 - L.length) [] ⟨rfl, rfl, rfl, rfl, rfl, rfl, rfl, rfl, rfl, rfl, rfl, trivial⟩ ⟨Nat.zero_le _, rfl, by rw [List.append_nil]; exact M0, K10, K20, kc0, Fr.refl _ _⟩ ?_
    clear M0 K10 K20 kc0
    rintro L wn ⟨hj, hLx, M, K1, K2, kc, g9⟩
    have kb4 := kb3.fr g9 hn3
    have kc4 := kc3.fr g9 hnc3
    have hjs := rows_succ (manyQ s) t yj L.length
    obtain ⟨⟨yr, lr⟩, hyr⟩ : ∃ u, u = rRows (manyQ s) L.length t yj := ⟨_, rfl⟩
    rw [← hyr] at M hLx hjs
    simp only at M hLx
    refine sC [] rfl ?_; refine sD [] rfl ?_
    refine ev_condD rfl (fun c2 => ?_) (fun c2 => ?_)
    · have hj9 : L.length < 9 := by omega
      obtain ⟨o0, ho1, _, _⟩ := setF_at (putF bH 0 L) cb zB L.length hj9
      have hcb2 : wn.cell? ⟨b3, 0 + (L.length : Int).toNat * 1, none⟩ = some (ptA cb o0) := kb4.cell (by rw [nthV_eq, show 0 + (L.length : Int).toNat * 1 = L.length by omega]; exact ho1)
      have hmq : ((manyQ s).map i64)[L.length]? = some (i64 ((manyQ s).getD L.length 0)) := by
        have hl : L.length < (manyQ s).length := hj9
        rw [List.getElem?_map, List.getD_eq_getElem?_getD, List.getElem?_eq_getElem hl]; rfl
      have hcc2 : wn.cell? ⟨c3, 0 + (L.length : Int).toNat * 1, none⟩ = some (i64 ((manyQ s).getD L.length 0)) := kc4.cell (by rw [nthV_eq, show 0 + (L.length : Int).toNat * 1 = L.length by omega]; exact hmq)
      refine sA [] rfl ?_
      refine ev_indexAddr rfl rfl tabOk rfl rfl rfl (by omega) (by omega) ?_
      refine ev_load rfl rfl tabOk rfl rfl ‹_› ?_; refine sA [] rfl ?_
      refine ev_indexAddr rfl rfl tabOk rfl rfl rfl (by omega) (by omega) ?_
      refine ev_load rfl rfl tabOk rfl rfl ‹_› ?_
      refine ev_call rfl rfl rfl (wRow8 p q t yr ((manyQ s).getD L.length 0) wn M.rs ht) ?_
      rintro r wo ⟨rw9, rfl, hq9, ho9, r5, g5⟩
      have M := M.row ho9 r5 g5
      have K1 := K1.fr g5 hK1
      have K2 := K2.fr g5 hK2
      have kc := kc.fr g5 hcpq
      obtain ⟨o2, ho1', ho2, ho3⟩ := setF_at (putF bH 0 L) cb rw9 L.length hj9
      obtain rfl : o0 = o2 := by
        have e := ho1.symm.trans ho1'
        injection e with e; injection e with e; injection e with e; injection e with _ e
      refine sA [] rfl ?_
      refine ev_store tabOk rfl rfl rfl rfl rfl rfl kc (blt_of ho2) (fun wp kn gn2 => ?_)
      have M := M.oth kc hcw hcpm hbvc gn2
      have K1 := K1.fr gn2 hcpr
      have K2 := K2.fr gn2 hcpz
      rw [setV_eq, ho3] at kn
      refine sA [] rfl ?_; refine ev_arith rfl rfl rfl rfl rfl (by simp only [lowK, hiK]; omega) ?_; refine sA [] rfl ?_
      have hlen : (L ++ [rw9]).length = L.length + 1 := by rw [List.length_append]; rfl
      refine ev_next (L ++ [rw9]) (by rw [hlen]; omega) ⟨by rw [hlen]; omega, ?_, ?_, K1, K2, ?_, (g9.trans g5 fun _ _ e => .inl e).trans gn2 fun _ _ e => .inr e⟩ ⟨rfl, rfl, rfl, rfl, rfl, rfl, rfl, rfl, rfl, rfl, by rw [hlen, show ((L.length + 1 : Nat) : Int) = (L.length : Int) + 1 by omega]; rfl, trivial⟩
      · rw [hlen, hjs, List.map_append, hLx]
        show lr ++ [rw9.xs] = _
        rw [hq9]
      · rw [hlen, hjs, ← List.append_assoc]; exact M
      · rw [putF_snoc, Nat.zero_add]; exact kn
    have h9 : L.length = 9 := by omega
    rw [h9] at hyr
    have hblk := rBlk_of hyj hyr
    rw [hblk] at hrs
    obtain ⟨b0, b1, b2, b3', b4, b5, b6, b7, rfl⟩ := eight hjl
    obtain ⟨q0, q1, q2, q3, q4, q5, q6, q7, q8, rfl⟩ := nine9 h9
    obtain ⟨bk, hbk⟩ : ∃ bk, bk = putF bH 0 [q0, q1, q2, q3, q4, q5, q6, q7, q8] := ⟨_, rfl⟩
    rw [← hbk] at kc
    have hpk : pBk bk = mkBk [b0, b1, b2, b3', b4, b5, b6, b7] lr := by
      have hLx : [q0, q1, q2, q3, q4, q5, q6, q7, q8].map Rw.xs = lr := hLx
      rw [← hLx, hbk, hbH, hzb]; rfl
    have hfr : bk.frs = [q0, q1, q2, q3, q4, q5, q6, q7, q8] := by rw [hbk, hbH, hzb]; rfl
    rw [← hfr, List.append_assoc] at M
    have hfl : (B ++ [bk]).flatMap Bk.frs = B.flatMap Bk.frs ++ bk.frs := by rw [List.flatMap_append]; simp
    rw [← hfl] at M
    have hcel : ∀ (L : List Value), bkC bk = L → L = bkC bk := fun _ h => h.symm
    have km := M.k
    obtain ⟨A3, ca3, rfl, _, _⟩ := M.bk.slice
    clear hblk hyj hyr g9 kb4 kc4 kb3 kc3 kb8 kb9
    refine sA [] rfl ?_; refine ev_loadB rfl rfl tabOk rfl rfl ‹_› (by rfl) ?_; refine ev_loadAggB rfl rfl tabOk rfl rfl ‹_› (by rfl) ?_
    refine ev_append1 (vs := [bkV bk]) tabOk rfl rfl (fun _ => rfl) rfl rfl inf73 rfl (by omega) (fun _ => rfl) rfl rfl (fun v hv => by rw [List.mem_singleton.1 hv]; rfl) (allOne_ok rfl) rfl M.bk (by omega) (fun bv' wo bq hB e4 nB => ?_)
    have hB : Own wo 73 17 bv' (B.length + 1) ((B ++ [bk]).flatMap bkC) := by
      have e : (B ++ [bk]).flatMap bkC = B.flatMap bkC ++ flatV [bkV bk] := by rw [List.flatMap_append]; rfl
      rw [e]; exact hB
    have K1 := K1.fr e4 (fun e => blk_own_ne K1 M.bk e (by decide) rfl)
    have K2 := K2.fr e4 (fun e => blk_own_ne K2 M.bk e (by decide) rfl)
    have M := M.setB hB e4 nB
    obtain ⟨A4, ca4, rfl, _, _⟩ := hB.slice
    have km := M.k
    refine sA [] rfl ?_
    refine ev_store tabOk rfl rfl rfl rfl rfl rfl km rfl (fun wp kp2 e5 => ?_)
    have kp2 : Blk wp pm (ofC s tv mv r1w.v es r2w.v r3w.v (.slice A4 (B.length + 1) ca4) nilS nilS nilS ls) 47 := kp2
    have M := M.set kp2 e5
    have K1 := K1.fr e5 hprm
    have K2 := K2.fr e5 (fun e => hnpz (.inr e))
    refine sA [] rfl ?_; refine ev_arith rfl rfl rfl rfl rfl (by simp only [lowK, hiK]; omega) ?_; refine sA [] rfl ?_
    refine ev_next (k + 1, .slice A4 (B.length + 1) ca4, B ++ [bk]) (by show nl - (k + 1) < nl - k; omega) ⟨by show k + 1 ≤ nl; omega, by show (B ++ [bk]).length = k + 1; rw [List.length_append, hBl]; rfl, ?_, ?_, K1, K2⟩ ⟨rfl, rfl, rfl, rfl, rfl, by show _ = some (i64 ((k + 1 : Nat) : Int)); rw [show ((k + 1 : Nat) : Int) = (k : Int) + 1 by omega]; rfl, trivial⟩
    · show (B ++ [bk]).map pBk = (rRep (rBlk s) (k + 1) t x9).2
      rw [hrs, List.map_append, hBx, ← hpk]; rfl
    · show MS w wp p q pm t (rRep (rBlk s) (k + 1) t x9).1 _ _ mv tv (Q0 ++ (B ++ [bk]).flatMap Bk.frs) T G (B ++ [bk])
      rw [hrs]; exact M
  have hkn : k = nl := by have c : ¬ (k : Int) < nl := c; omega
  subst hkn
  have M0 := M
  clear M hk hrs hBl
  refine sA [] rfl ?_
  refine mixC_in (fun w' => Blk w' pz (shpC s) 35) mixed (fun u0 e0 => ?_)
  have M := M0.fr0 e0
  have K1 := K1.fr0 e0
  have K2 := K2.fr0 e0
  clear M0
  refine mA rfl (by kernel_rfl) (by kernel_rfl) ?_
  refine m_load 4 rfl rfl rfl (by kernel_rfl) (by kernel_rfl) rfl rfl tabOk rfl rfl (fun w' h => h.cell rfl) ?_
  refine m_load 8 rfl rfl rfl (by kernel_rfl) (by kernel_rfl) rfl rfl tabOk rfl rfl (fun w' h => h.cell rfl) ?_
  refine m_load 10 rfl rfl rfl (by kernel_rfl) (by kernel_rfl) rfl rfl tabOk rfl rfl (fun w' h => h.cell rfl) ?_
  refine m_arith 11 rfl rfl rfl (by kernel_rfl) (by kernel_rfl) rfl rfl rfl rfl rfl (by simp only [lowK, hiK]; omega) ?_
  refine mix1 rfl rfl ?_ K2
  refine ev_call rfl rfl rfl (wRow8 p q t z (256) _ M.rs ht) ?_
  rintro r u1 ⟨r4w, rfl, qr4w, or4w, r1, e1⟩
  have M := M.row or4w r1 e1
  have K1 := K1.fr e1 hK1
  have K2 := K2.fr e1 hK2
  obtain ⟨⟨x11, lb⟩, h11⟩ : ∃ zz, zz = rRow (256) t z := ⟨_, rfl⟩
  rw [← h11] at M qr4w
  refine mix_op ?_
  refine mix1 rfl rfl ?_ K2
  refine ev_call rfl rfl rfl (wRow8 p q t x11 (s.dim) _ M.rs ht) ?_
  rintro r u1 ⟨r5w, rfl, qr5w, or5w, r1, e1⟩
  have M := M.row or5w r1 e1
  have K1 := K1.fr e1 hK1
  have K2 := K2.fr e1 hK2
  obtain ⟨⟨x12, lg⟩, h12⟩ : ∃ zz, zz = rRow (s.dim) t x11 := ⟨_, rfl⟩
  rw [← h12] at M qr5w
  refine mix_op ?_
  refine mix1 rfl rfl ?_ K2
  refine ev_call rfl rfl rfl (wRow8 p q t x12 (s.voc * s.dim) _ M.rs ht) ?_
  rintro r u1 ⟨r6w, rfl, qr6w, or6w, r1, e1⟩
  have M := M.row or6w r1 e1
  have K1 := K1.fr e1 hK1
  have K2 := K2.fr e1 hK2
  obtain ⟨⟨x13, lu⟩, h13⟩ : ∃ zz, zz = rRow (s.voc * s.dim) t x12 := ⟨_, rfl⟩
  rw [← h13] at M qr6w
  refine mix_op ?_
  refine mA rfl (by kernel_rfl) (by kernel_rfl) ?_
  have km := M.k
  refine mix1 rfl rfl ?_ K2
  refine ev_store tabOk rfl rfl rfl rfl rfl rfl km rfl (fun u4 k4 e4 => ?_)
  have k4 : Blk u4 pm (ofC s tv mv r1w.v es r2w.v r3w.v bv r4w.v nilS nilS ls) 47 := k4
  have M := M.set k4 e4
  have K1 := K1.fr e4 hprm
  have K2 := K2.fr e4 (fun e => hnpz (.inr e))
  clear km
  refine mix_op ?_
  refine mA rfl (by kernel_rfl) (by kernel_rfl) ?_
  have km := M.k
  refine mix1 rfl rfl ?_ K2
  refine ev_store tabOk rfl rfl rfl rfl rfl rfl km rfl (fun u4 k4 e4 => ?_)
  have k4 : Blk u4 pm (ofC s tv mv r1w.v es r2w.v r3w.v bv r4w.v r5w.v nilS ls) 47 := k4
  have M := M.set k4 e4
  have K1 := K1.fr e4 hprm
  have K2 := K2.fr e4 (fun e => hnpz (.inr e))
  clear km
  refine mix_op ?_
  refine mA rfl (by kernel_rfl) (by kernel_rfl) ?_
  have km := M.k
  refine mix1 rfl rfl ?_ K2
  refine ev_store tabOk rfl rfl rfl rfl rfl rfl km rfl (fun u4 k4 e4 => ?_)
  have k4 : Blk u4 pm (ofC s tv mv r1w.v es r2w.v r3w.v bv r4w.v r5w.v r6w.v ls) 47 := k4
  have M := M.set k4 e4
  have K1 := K1.fr e4 hprm
  have K2 := K2.fr e4 (fun e => hnpz (.inr e))
  clear km
  refine mix_op ?_
  refine mix_out rfl ?_ K2
  have hbody := rBody_of (h := hf) h2 h3 hVo h7 h8 h9 (by rw [← hnl]; exact hz) h11 h12 h13
  rw [hbody]
  obtain ⟨A1, ca1, rfl, _, _⟩ := M.tx.slice
  obtain ⟨A2, ca2, rfl, _, _⟩ := M.mg.slice
  obtain ⟨A3, ca3, rfl, _, _⟩ := M.bk.slice
  obtain ⟨m, hmd⟩ : ∃ m : LM, m = ⟨s, A1, ca1, A2, ca2, ⟨T, G⟩, r1w, es, r2w, r3w, A3, ca3, B, r4w, r5w, r6w, ls⟩ := ⟨_, rfl⟩
  have hmp : m.p = ⟨s, ⟨T, G⟩, le, es, lc, ln, PB, lb, lg, lu, ls⟩ := by
    rw [hmd]
    unfold LM.p
    simp only [qr1w, qr2w, qr3w, qr4w, qr5w, qr6w, hBx]
  have hperm : (Q0 ++ B.flatMap Bk.frs ++ [r4w] ++ [r5w] ++ [r6w]).Perm m.all := by
    rw [hmd, hQ0]
    have p1 : ([r1w, r2w, r3w] ++ (B.flatMap Bk.frs ++ [r4w, r5w, r6w])).Perm ([r1w, r2w, r3w] ++ ([r4w, r5w, r6w] ++ B.flatMap Bk.frs)) := List.Perm.append_left _ List.perm_append_comm
    have p2 := (permM r1w r2w r3w r4w r5w r6w (B.flatMap Bk.frs))
    have p3 : ([r5w, r2w, r3w, r4w, r1w] ++ B.flatMap Bk.frs ++ [r6w]).Perm ([r5w, r2w, r3w, r4w, r1w] ++ B.flatMap Bk.rows ++ [r6w]) := ((frs_perm B).append_left _).append_right _
    have e : [] ++ [r1w] ++ [r2w] ++ [r3w] ++ B.flatMap Bk.frs ++ [r4w] ++ [r5w] ++ [r6w] = [r1w, r2w, r3w] ++ (B.flatMap Bk.frs ++ [r4w, r5w, r6w]) := by simp
    rw [e]
    exact (p1.trans p2).trans p3
  have hRaw : ∀ {w' : World}, Fr (fun c => c = pr ∨ c = p) u4 w' → RawM w w' m := fun hf => by
    rw [hmd]
    have hpp : ∀ {v : Value} {g : Nat}, v ∈ [Value.slice A3 B.length ca3, .slice A2 G.length ca2, .slice A1 T.length ca1] → v.ownBlock = some g → p ≠ g := fun hv hg e => M.lo hv hg (.inl e.symm)
    refine ⟨_, M.om.fr hf (fun r hr g hg e => ?_), by rw [hmd] at hperm; exact hperm, M.tx.fr hf (fun g hg e => ?_), M.mg.fr hf (fun g hg e => ?_), M.bk.fr hf (fun g hg e => ?_)⟩
    · rcases e with e | e
      · exact blk_own_ne K1 (M.om.q.rows r hr).1 hg (by decide) e.symm
      · exact M.rlo hr hg (.inl e)
    · rcases e with e | e
      · exact blk_own_ne K1 M.tx hg (by decide) e.symm
      · exact hpp (by simp) hg e.symm
    · rcases e with e | e
      · exact blk_own_ne K1 M.mg hg (by decide) e.symm
      · exact hpp (by simp) hg e.symm
    · rcases e with e | e
      · exact blk_own_ne K1 M.bk hg (by decide) e.symm
      · exact hpp (by simp) hg e.symm
  have km := M.k
  have krs := M.rs.k
  have hnp : p ≠ pr := fun e => hK1 (.inl e.symm)
  have hppm : p ≠ pm := fun e => M.npm (.inl e.symm)
  refine sA [] rfl ?_; refine ev_loadB rfl rfl tabOk rfl rfl ‹_› (by rfl) ?_; refine sD [] rfl ?_; refine sD [] rfl ?_
  refine ev_condD rfl (fun ce => ?_) (fun ce => ?_)
  · have he : x13.e = 0 := by simpa using ce
    refine sA [] rfl ?_; refine ev_loadB rfl rfl tabOk rfl rfl ‹_› (by rfl) ?_
    refine ev_call rfl rfl rfl (rdEnd q t x13.i u4 M.rs.r M.rs.le ht) ?_
    rintro r v1 ⟨rfl, e6⟩
    have krs1 := krs.fr0 e6
    refine sA [] rfl ?_
    refine ev_store tabOk rfl rfl rfl rfl rfl rfl krs1 rfl (fun v2 kq e7 => ?_)
    have kq : Blk v2 p [.pointer (some ⟨q, 0, none⟩), i64 (if x13.i < t.length then 13 else 0)] 144 := kq
    have km2 := (km.fr0 e6).fr e7 (fun e => hppm e.symm)
    have kr2 := (K1.fr0 e6).fr e7 (fun e => hnp e.symm)
    refine sA [] rfl ?_; refine ev_loadAggB rfl rfl tabOk rfl rfl ‹_› (by rfl) ?_
    refine ev_storeAgg tabOk rfl rfl rfl rfl rfl rfl kr2 rfl (fun v3 kr3 e8 => ?_)
    refine sA [] rfl ?_
    have hF : Fr (fun c => c = pr ∨ c = p) u4 v3 := ((e6.mono fun _ _ z => z.elim).trans e7 fun z _ e => .inr e).trans e8 fun z _ e => .inl e
    refine retG tabOk (.inr rfl) rfl [lmV m] ⟨⟨_, rfl, .inl ⟨rfl, _, rfl, rfl, by rw [hmd]; exact Cs.of_blk kr3⟩⟩, trivial⟩ ⟨m, ⟨x13.i, if x13.i < t.length then 13 else 0⟩, rfl, hRaw hF, ⟨kq.fr e8 hnp, ((M.rs.r.fr0 e6).fr e7 (fun e => M.rs.ne e.symm)).fr e8 (fun e => hK1 (.inr e.symm)), M.rs.ne, M.rs.le⟩, M.fr.trans hF fun c hc e => ?_, ?_, fun _ => hmp⟩
    · rcases e with e | e
      · exact absurd hc (by have : w.heap.size ≤ pr := hprw; omega)
      · exact .inl e
    · unfold endE; rw [if_pos he]
  · have he : x13.e ≠ 0 := by simpa using ce
    refine sA [] rfl ?_; refine ev_loadAggB rfl rfl tabOk rfl rfl ‹_› (by rfl) ?_
    refine ev_storeAgg tabOk rfl rfl rfl rfl rfl rfl K1 rfl (fun v3 kr3 e8 => ?_)
    refine sA [] rfl ?_
    have hF : Fr (fun c => c = pr ∨ c = p) u4 v3 := e8.mono fun z _ e => .inl e
    refine retG tabOk (.inr rfl) rfl [lmV m] ⟨⟨_, rfl, .inl ⟨rfl, _, rfl, rfl, by rw [hmd]; exact Cs.of_blk kr3⟩⟩, trivial⟩ ⟨m, x13, rfl, hRaw hF, M.rs.fr e8 hnp (fun e => hK1 (.inr e.symm)), M.fr.trans e8 fun c hc e => ?_, ?_, fun _ => hmp⟩
    · exact absurd hc (by have : w.heap.size ≤ pr := hprw; have e : c = pr := e; omega)
    · unfold endE; rw [if_neg he]
end Go.Wk.YtdelgnflcfhhkaaGreatDoor
