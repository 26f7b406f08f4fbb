/-
  Chapter 17: the document's reader of a vocabulary: the walk.
-/
import Derived.Test.YtdelgnflcfhhkaaGreatDoorFlN
set_option linter.unusedVariables false
namespace Go.Wk.YtdelgnflcfhhkaaGreatDoor
open Go Go.Wk Go.Proofs

theorem rep_stick {α : Type} {r : Rdr α} (g : Good r) (t : List UInt8) (x : Sc) {k : Nat} (he : (rRep r k t x).1.e ≠ 0) : ∀ n, k ≤ n → (rRep r n t x).1 = (rRep r k t x).1
  | 0, h => by rw [Nat.le_zero.1 h]
  | n + 1, h => by
    by_cases e : k = n + 1
    · rw [e]
    · have ih := rep_stick g t x he n (by omega)
      rw [rep_succ]
      show (r t (rRep r n t x).1).1 = _
      rw [ih]
      exact g.stick t _ he
theorem repG_stick {α : Type} {r : Rdr α} (g : Good r) (t : List UInt8) (x : Sc) {k : Nat} (he : (rRepG r k t x).1.e ≠ 0) : ∀ n, k ≤ n → rRepG r n t x = rRepG r k t x
  | 0, h => by rw [Nat.le_zero.1 h]
  | n + 1, h => by
    by_cases e : k = n + 1
    · rw [e]
    · have ih := repG_stick g t x he n (by omega)
      have h1 := repG_n (r := r) (k := n) (t := t) (x := x) (x1 := (rRepG r n t x).1) (l := (rRepG r n t x).2) rfl (by rw [ih]; exact he)
      rw [h1, ih]
theorem voc_err {n k : Nat} {t : List UInt8} {x : Sc} (hk : k ≤ n) (he : (rRep rTxt k t x).1.e ≠ 0) : (rVoc n t x).1 = (rRep rTxt k t x).1 := by
  have h := rep_stick good_txt t x he n hk
  unfold rVoc
  rw [bind_eq]
  have hg : Good ((rNum 2).bind fun k => (rChk (decide (k ≤ 1024)) 131).bind fun _ => (rRepG rMrg k.toNat).bind fun g => Rdr.ret (⟨(rRep rTxt n t x).2, g⟩ : VV)) :=
    good_bind (good_num _) fun k => good_bind (good_chk _ _) fun _ => good_bind (good_repG good_mrg _) fun g => good_ret _
  rw [hg.stick t _ (by rw [h]; exact he), h]
/-- a vocabulary that is being read -/
structure HV (wi w0 w : World) (p2 pv p4 p5 : Nat) (T : List UInt8) (x : Sc) (tv mv : Value) (L : List (List UInt8)) (G : List Mrg) : Prop where
  k2 : Blk w p2 (scC T x) 149
  kv : Blk w pv [tv, mv] 53
  k4 : Blk w p4 (scC [] ⟨0, 0⟩) 149
  k5 : Blk w p5 [nilS, nilS] 53
  tx : Own w 9 1 tv L.length (L.map sv)
  mg : Own w 134 3 mv G.length (mcs G)
  tn : ∀ g, tv.ownBlock = some g → w0.heap.size ≤ g
  mn : ∀ g, mv.ownBlock = some g → w0.heap.size ≤ g
  tm : ∀ g, tv.ownBlock = some g → mv.ownBlock ≠ some g
  fr : Fr no wi w
  sz : w0.heap.size ≤ w.heap.size
  lt : p2 < w0.heap.size ∧ pv < w0.heap.size ∧ p4 < w0.heap.size ∧ p5 < w0.heap.size
  ge : wi.heap.size ≤ p2 ∧ wi.heap.size ≤ pv ∧ wi.heap.size ≤ p4 ∧ wi.heap.size ≤ p5 ∧ wi.heap.size ≤ w0.heap.size
  ne : p2 ≠ pv ∧ p2 ≠ p4 ∧ p2 ≠ p5 ∧ pv ≠ p4 ∧ pv ≠ p5 ∧ p4 ≠ p5
  le : x.i ≤ T.length
section
variable {wi w0 w w' : World} {p2 pv p4 p5 : Nat} {T : List UInt8} {x x' : Sc} {tv mv tv' mv' : Value} {L : List (List UInt8)} {G : List Mrg}
theorem HV.fr0 (h : HV wi w0 w p2 pv p4 p5 T x tv mv L G) (hf : Fr no w w') : HV wi w0 w' p2 pv p4 p5 T x tv mv L G :=
  ⟨h.k2.fr0 hf, h.kv.fr0 hf, h.k4.fr0 hf, h.k5.fr0 hf, h.tx.fr0 hf, h.mg.fr0 hf, h.tn, h.mn, h.tm, h.fr.tr hf, Nat.le_trans h.sz hf.size, h.lt, h.ge, h.ne, h.le⟩
theorem HV.set2 (h : HV wi w0 w p2 pv p4 p5 T x tv mv L G) (hk : Blk w' p2 (scC T x') 149) (hf : Fr (fun c => c = p2) w w') (hl : x'.i ≤ T.length) : HV wi w0 w' p2 pv p4 p5 T x' tv mv L G := by
  obtain ⟨n1, n2, n3, n4, n5, n6⟩ := h.ne
  obtain ⟨l1, l2, l3, l4⟩ := h.lt
  obtain ⟨g1, g2, g3, g4, g5⟩ := h.ge
  exact ⟨hk, h.kv.fr hf (fun e => n1 e.symm), h.k4.fr hf (fun e => n2 e.symm), h.k5.fr hf (fun e => n3 e.symm), h.tx.fr hf (fun g hg e => by have := h.tn g hg; have e : g = p2 := e; omega), h.mg.fr hf (fun g hg e => by have := h.mn g hg; have e : g = p2 := e; omega), h.tn, h.mn, h.tm,
    h.fr.trans hf fun z hz e => by have e : z = p2 := e; omega, Nat.le_trans h.sz hf.size, h.lt, h.ge, h.ne, hl⟩
/-- the texts grow, and the vocabulary's block is written -/
theorem HV.setT {w2 : World} {s : List UInt8} (h : HV wi w0 w p2 pv p4 p5 T x tv mv L G) (hB : Own w' 9 1 tv' (L.length + 1) (L.map sv ++ [sv s])) (hf : Fr (fun c => tv.ownBlock = some c) w w') (hn : NB w tv tv')
    (hk : Blk w2 pv [tv', mv] 53) (hf2 : Fr (fun c => c = pv) w' w2) : HV wi w0 w2 p2 pv p4 p5 T x tv' mv (L ++ [s]) G := by
  obtain ⟨n1, n2, n3, n4, n5, n6⟩ := h.ne
  obtain ⟨l1, l2, l3, l4⟩ := h.lt
  obtain ⟨g1, g2, g3, g4, g5⟩ := h.ge
  have nt : ∀ q, q < w0.heap.size → ¬ tv.ownBlock = some q := fun q hq e => by have := h.tn q e; omega
  have tn' : ∀ g, tv'.ownBlock = some g → w0.heap.size ≤ g := fun g hg => by
    rcases hn g hg with z | z
    · exact h.tn g z
    · exact Nat.le_trans h.sz z
  refine ⟨(h.k2.fr hf (nt _ l1)).fr hf2 n1, hk, (h.k4.fr hf (nt _ l3)).fr hf2 (fun e => n4 e.symm), (h.k5.fr hf (nt _ l4)).fr hf2 (fun e => n5 e.symm), ?_, (h.mg.fr hf (fun g hg e => h.tm g e hg)).fr hf2 (fun g hg e => by have := h.mn g hg; have e : g = pv := e; omega), tn', h.mn, fun g hg => ?_,
    (h.fr.trans hf fun z hz e => by have := h.tn z e; omega).trans hf2 fun z hz e => by have e : z = pv := e; omega, Nat.le_trans (Nat.le_trans h.sz hf.size) hf2.size, h.lt, h.ge, h.ne, h.le⟩
  · rw [List.length_append, List.length_singleton, List.map_append]
    exact hB.fr hf2 (fun g hg e => by have := tn' g hg; have e : g = pv := e; omega)
  · rcases hn g hg with z | z
    · exact h.tm g z
    · intro e; have := h.mg.lt e; omega
theorem HV.oth {pz : Nat} (h : HV wi w0 w p2 pv p4 p5 T x tv mv L G) (hz : w0.heap.size ≤ pz) (hf : Fr (fun c => c = pz) w w') (ht : ∀ g, tv.ownBlock = some g → g ≠ pz) (hm : ∀ g, mv.ownBlock = some g → g ≠ pz) : HV wi w0 w' p2 pv p4 p5 T x tv mv L G := by
  obtain ⟨l1, l2, l3, l4⟩ := h.lt
  obtain ⟨g1, g2, g3, g4, g5⟩ := h.ge
  exact ⟨h.k2.fr hf (fun e => by have e : p2 = pz := e; omega), h.kv.fr hf (fun e => by have e : pv = pz := e; omega), h.k4.fr hf (fun e => by have e : p4 = pz := e; omega), h.k5.fr hf (fun e => by have e : p5 = pz := e; omega), h.tx.fr hf ht, h.mg.fr hf hm, h.tn, h.mn, h.tm,
    h.fr.trans hf fun z hz' e => by have e : z = pz := e; omega, Nat.le_trans h.sz hf.size, h.lt, h.ge, h.ne, h.le⟩
theorem HV.setM {w2 : World} {s : Mrg} (h : HV wi w0 w p2 pv p4 p5 T x tv mv L G) (hB : Own w' 134 3 mv' (G.length + 1) (mcs (G ++ [s]))) (hf : Fr (fun c => mv.ownBlock = some c) w w') (hn : NB w mv mv')
    (hk : Blk w2 pv [tv, mv'] 53) (hf2 : Fr (fun c => c = pv) w' w2) : HV wi w0 w2 p2 pv p4 p5 T x tv mv' L (G ++ [s]) := by
  obtain ⟨n1, n2, n3, n4, n5, n6⟩ := h.ne
  obtain ⟨l1, l2, l3, l4⟩ := h.lt
  obtain ⟨g1, g2, g3, g4, g5⟩ := h.ge
  have nt : ∀ q, q < w0.heap.size → ¬ mv.ownBlock = some q := fun q hq e => by have := h.mn q e; omega
  have mn' : ∀ g, mv'.ownBlock = some g → w0.heap.size ≤ g := fun g hg => by
    rcases hn g hg with z | z
    · exact h.mn g z
    · exact Nat.le_trans h.sz z
  refine ⟨(h.k2.fr hf (nt _ l1)).fr hf2 n1, hk, (h.k4.fr hf (nt _ l3)).fr hf2 (fun e => n4 e.symm), (h.k5.fr hf (nt _ l4)).fr hf2 (fun e => n5 e.symm), (h.tx.fr hf (fun g hg e => h.tm g hg e)).fr hf2 (fun g hg e => by have := h.tn g hg; have e : g = pv := e; omega), ?_, h.tn, mn', fun g hg e => ?_,
    (h.fr.trans hf fun z hz e => by have := h.mn z e; omega).trans hf2 fun z hz e => by have e : z = pv := e; omega, Nat.le_trans (Nat.le_trans h.sz hf.size) hf2.size, h.lt, h.ge, h.ne, h.le⟩
  · rw [List.length_append, List.length_singleton]
    exact hB.fr hf2 (fun g hg e => by have := mn' g hg; have e : g = pv := e; omega)
  · rcases hn g e with z | z
    · exact h.tm g hg z
    · have := h.tx.lt hg; omega
end
set_option maxHeartbeats 16000000 in
theorem hWords (T : List UInt8) (x : Sc) (n : Nat) (w : World) (hi : x.i ≤ T.length) (hT : T.length ≤ 140737488355232) (hn : n ≤ 512) :
    CallsF Tryz.prog 57 [scV T x, i64 n] w fun v w' => ∃ (y : Sc) (A : Option Addr) (c : Nat) (B : Option Addr) (d : Nat) (V : VV), v = .tuple #[scV T y, vv A c B d V] ∧ y = (rVoc n T x).1 ∧ (y.e = 0 → V = (rVoc n T x).2) ∧
      Own w' 9 1 (.slice A V.texts.length c) V.texts.length (V.texts.map sv) ∧ Own w' 134 3 (.slice B V.merges.length d) V.merges.length (mcs V.merges) ∧
      (∀ g, (Value.slice A V.texts.length c).ownBlock = some g → w.heap.size ≤ g ∧ (Value.slice B V.merges.length d).ownBlock ≠ some g) ∧ (∀ g, (Value.slice B V.merges.length d).ownBlock = some g → w.heap.size ≤ g) ∧ Fr no w w' ∧ y.i ≤ T.length := by
  refine callsF Tryz.func57 rfl rfl (by decide) rfl ?_
  refine sA [] rfl ?_
  refine ev_box rfl rfl rfl fun p2 w1 hp2 k2 f1 => ?_
  have k2 : Blk w1 p2 (scC T x) 149 := k2
  refine ev_alloc rfl rfl inf149 (fun p4 w2 hp4 k4 f2 => ?_)
  refine ev_alloc rfl rfl inf53 (fun p5 w3 hp5 k5 f3 => ?_)
  have l2 : p2 < w1.heap.size := k2.lt
  have l4 : p4 < w2.heap.size := k4.lt
  have l5 : p5 < w3.heap.size := k5.lt
  have k4 : Blk w2 p4 (scC [] ⟨0, 0⟩) 149 := k4
  have k5 : Blk w3 p5 [nilS, nilS] 53 := k5
  refine sA [] rfl ?_
  refine ev_build rfl rfl (v := .agg ⟨[nilS, nilS]⟩) rfl (fun w => by kernel_rfl) ?_
  refine ev_alloc rfl rfl inf53 (fun pv w4 hpv kv f4 => ?_)
  refine ev_storeAgg tabOk rfl rfl rfl rfl rfl rfl kv rfl (fun w5 kv5 f5 => ?_)
  have lv : pv < w4.heap.size := kv.lt
  have kv5 : Blk w5 pv [nilS, nilS] 53 := kv5
  have s1 := f1.size
  have s2 := f2.size
  have s3 := f3.size
  have s4 := f4.size
  have s5 := f5.size
  have hF4 := ((f1.tr f2).tr f3).tr f4
  have hF5 : Fr no w w5 := hF4.trans f5 fun z hz e => by have e : z = pv := e; omega
  have H0 : HV w w5 w5 p2 pv p4 p5 T x nilS nilS [] [] :=
    ⟨(((k2.fr0 f2).fr0 f3).fr0 f4).fr f5 (fun e => by have e : p2 = pv := e; omega), kv5, ((k4.fr0 f3).fr0 f4).fr f5 (fun e => by have e : p4 = pv := e; omega), (k5.fr0 f4).fr f5 (fun e => by have e : p5 = pv := e; omega),
     Own.nil _ _ _, Own.nil _ _ _, fun g hg => (by cases hg), fun g hg => (by cases hg), fun g hg => (by cases hg), hF5, Nat.le_refl _, ⟨by omega, by omega, by omega, by omega⟩, ⟨by omega, by omega, by omega, by omega, by omega⟩, ⟨by omega, by omega, by omega, by omega, by omega, by omega⟩, hi⟩
  clear k2 k4 k5 kv kv5
  refine sA [] rfl ?_
  refine ev_loop (α := Nat × Value × List (List UInt8)) (fun z => [(1, i64 n), (2, ptA p2 0), (4, ptA p4 0), (5, ptA p5 0), (6, ptA pv 0), (7, i64 z.1)])
    (fun z w' => z.1 ≤ n ∧ HV w w5 w' p2 pv p4 p5 T (rRep rTxt z.1 T x).1 z.2.1 nilS z.2.2 [] ∧ ((rRep rTxt z.1 T x).1.e = 0 → z.2.2 = (rRep rTxt z.1 T x).2) ∧ z.2.2.length ≤ z.1) (fun z => n - z.1) (0, nilS, []) ⟨rfl, rfl, rfl, rfl, rfl, rfl, trivial⟩ ⟨Nat.zero_le _, H0, fun _ => rfl, Nat.le_refl _⟩ ?_
  clear H0
  rintro ⟨k, tv, L⟩ wd ⟨hk, M, hL, hLl⟩
  have hk : k ≤ n := hk
  simp only at M hL hLl
  have hrs := rep_succ rTxt T x k
  have hst := @voc_err n k T x hk
  obtain ⟨⟨y, L0⟩, hy⟩ : ∃ z, z = rRep rTxt k T x := ⟨_, rfl⟩
  rw [← hy] at M hL hrs hst
  simp only at M hL hst
  have k2 := M.k2
  refine stepF_ok tabOk [] (m := 1) rfl ?_
  refine ev_join1 (α := Bool) (fun b => [(1, i64 n), (2, ptA p2 0), (4, ptA p4 0), (5, ptA p5 0), (6, ptA pv 0), (7, i64 k), (24, .bool b)]) (fun b w' => w' = wd ∧ b = decide (k < n ∧ y.e = 0)) ?_ ?_
  · refine sC [] rfl ?_; refine sD [] rfl ?_
    by_cases h1 : k < n
    · rw [show decide (((k, tv, L).1 : Int) < (n : Int)) = true from decide_eq_true (by show (k : Int) < n; omega)]
      refine sA [] rfl ?_; refine ev_loadB rfl rfl tabOk rfl rfl ‹_› (by rfl) ?_; refine sA [] rfl ?_
      exact ev_out _ ⟨rfl, decide_eq_decide.2 ⟨fun e => ⟨h1, e⟩, fun e => e.2⟩⟩ ⟨rfl, rfl, rfl, rfl, rfl, rfl, rfl, trivial⟩
    · rw [show decide (((k, tv, L).1 : Int) < (n : Int)) = false from decide_eq_false (by show ¬ (k : Int) < n; omega)]
      refine sA [] rfl ?_
      exact ev_out false ⟨rfl, (decide_eq_false (fun e => h1 e.1)).symm⟩ ⟨rfl, rfl, rfl, rfl, rfl, rfl, rfl, trivial⟩
  rintro b w' ⟨rfl, rfl⟩
  skip
  refine ev_condD rfl (fun c => ?_) (fun c => ?_)
  · obtain ⟨hkn, he⟩ := c
    have hLe := hL he
    refine sA [] rfl ?_; refine ev_loadAggB rfl rfl tabOk rfl rfl ‹_› (by rfl) ?_
    refine ev_call rfl rfl rfl (hScN T y 1 _ M.le (by omega)) ?_
    rintro r u1 ⟨rfl, e1⟩
    have M := M.fr0 e1
    have hle := (good_num 1).le T y M.le
    have hy1 : rTxt T y = rRaw (rNum 1 T y).2 T (rChk (decide ((rNum 1 T y).2 ≤ 64)) 130 T (rNum 1 T y).1).1 := rTxt_eq T y
    obtain ⟨⟨y1, n1⟩, hn1⟩ : ∃ z, z = rNum 1 T y := ⟨_, rfl⟩
    rw [← hn1] at hle hy1 ⊢
    clear k2
    refine sA [] rfl ?_
    refine ev_alloc rfl rfl inf149 (fun p8 u2 hp8 k8 e2 => ?_)
    refine ev_storeAgg tabOk rfl rfl rfl rfl rfl rfl k8 rfl (fun u3 k8 e3 => ?_)
    have e23 : Fr no u1 u3 := e2.trans e3 fun z hz e => by have e : z = p8 := e; omega
    have k8 : Blk u3 p8 (scC T y1) 149 := k8
    have M := M.fr0 e23
    have k2 := M.k2
    refine sA [] rfl ?_; refine ev_loadAggB rfl rfl tabOk rfl rfl ‹_› (by rfl) ?_
    refine ev_storeAgg tabOk rfl rfl rfl rfl rfl rfl k2 rfl (fun u4 j4 e4 => ?_)
    have M := M.set2 (x' := y1) j4 e4 hle
    clear k2
    have k2 := M.k2
    obtain ⟨y2, hy2⟩ : ∃ z, z = (rChk (decide (n1 ≤ 64)) 130 T y1).1 := ⟨_, rfl⟩
    have hy2i : y2.i = y1.i := by
      rw [hy2]; unfold rChk; (repeat' split) <;> rfl
    rw [← hy2] at hy1
    refine stepF_ok tabOk [] (m := 2) rfl ?_
    refine ev_join2 (α := Unit) (fun _ => [(1, i64 n), (2, ptA p2 0), (4, ptA p4 0), (5, ptA p5 0), (6, ptA pv 0), (7, i64 k), (9, i64 n1)]) (fun _ w' => HV w w5 w' p2 pv p4 p5 T y2 tv nilS L []) ?_ ?_
    · refine sA [] rfl ?_; refine ev_loadB rfl rfl tabOk rfl rfl ‹_› (by rfl) ?_; refine sD [] rfl ?_; refine sD [] rfl ?_
      by_cases he1 : y1.e = 0
      · rw [show decide (y1.e = 0) = true from decide_eq_true he1]
        refine sC [] rfl ?_
        refine ev_condD rfl (fun c2 => ?_) (fun c2 => ?_)
        · have h64 : ¬ n1 ≤ 64 := by have c2 : 64 < n1 := c2; omega
          have e2 : y2 = ⟨y1.i, 130⟩ := by rw [hy2]; unfold rChk; rw [if_pos he1, if_neg (by simp [h64])]
          refine sA [] rfl ?_
          refine ev_store tabOk rfl rfl rfl rfl rfl rfl k2 rfl (fun u5 j5 e5 => ?_)
          have j5 : Blk u5 p2 (scC T y2) 149 := by rw [e2]; exact j5
          have M := M.set2 (x' := y2) j5 e5 (by rw [hy2i]; exact hle)
          refine sA [] rfl ?_
          exact ev_out () M ⟨rfl, rfl, rfl, rfl, rfl, rfl, rfl, trivial⟩
        · have h64 : n1 ≤ 64 := by have c2 : ¬ 64 < n1 := c2; omega
          have e2 : y2 = y1 := by rw [hy2]; unfold rChk; rw [if_pos he1, if_pos (by simp [h64])]
          rw [← e2] at M
          refine sA [] rfl ?_
          exact ev_out () M ⟨rfl, rfl, rfl, rfl, rfl, rfl, rfl, trivial⟩
      · rw [show decide (y1.e = 0) = false from decide_eq_false he1]
        have e2 : y2 = y1 := by rw [hy2]; unfold rChk; rw [if_neg he1]
        rw [← e2] at M
        refine sA [] rfl ?_
        exact ev_out () M ⟨rfl, rfl, rfl, rfl, rfl, rfl, rfl, trivial⟩
    clear M k2 j4 k8
    rintro ⟨⟩ u6 M
    have k2 := M.k2
    have kv := M.kv
    have k4 := M.k4
    have k5 := M.k5
    obtain ⟨A, ca, htv, _, _⟩ := M.tx.slice
    subst htv
    refine sA [] rfl ?_; refine ev_loadB rfl rfl tabOk rfl rfl ‹_› (by rfl) ?_; refine sD [] rfl ?_; refine sD [] rfl ?_
    refine ev_condD rfl (fun c2 => ?_) (fun c2 => ?_)
    · have he2 : y2.e ≠ 0 := by simpa using c2
      refine sA [] rfl ?_
      have hrt : (rTxt T y).1 = y2 := by rw [hy1]; exact (good_raw n1).stick T y2 he2
      have hfin : y2 = (rVoc n T x).1 := by
        have h1 : (rRep rTxt (k + 1) T x).1 = y2 := by rw [hrs]; exact hrt
        rw [voc_err (k := k + 1) (by omega) (by rw [h1]; exact he2), h1]
      refine mixC_in (fun w' => Blk w' p2 (scC T y2) 149 ∧ Blk w' pv [.slice A L.length ca, nilS] 53) mixed (fun u7 e7 => ?_)
      have M := M.fr0 e7
      refine m_loadAgg 0 rfl rfl rfl (by kernel_rfl) (by kernel_rfl) rfl rfl tabOk rfl rfl rfl (fun w' h => Cs.of_blk h.1) ?_
      refine m_loadAgg 1 rfl rfl rfl (by kernel_rfl) (by kernel_rfl) rfl rfl tabOk rfl rfl rfl (fun w' h => Cs.of_blk h.2) ?_
      obtain ⟨x1, x2, x3, x4, x5, x6⟩ := M.ne
      obtain ⟨g1, g2, g3, g4, g5⟩ := M.ge
      obtain ⟨q1, q2, q3, q4⟩ := M.lt
      refine mix1 rfl rfl ?_ ⟨M.k2, M.kv⟩
      refine ev_storeAgg tabOk rfl rfl rfl rfl rfl rfl M.k4 rfl (fun u8 j8 e8 => ?_)
      have c1 := M.k2.fr e8 x2
      have c2' := M.kv.fr e8 x4
      have c5 := M.k5.fr e8 (fun e => x6 e.symm)
      refine mix_op ?_
      refine mix1 rfl rfl ?_ ⟨c1, c2'⟩
      refine ev_storeAgg tabOk rfl rfl rfl rfl rfl rfl c5 rfl (fun u9 j9 e9 => ?_)
      have j8 := j8.fr e9 x6
      refine mix_op ?_
      refine mix_out rfl ?_ ⟨c1.fr e9 x3, c2'.fr e9 x5⟩
      refine sA [] rfl ?_
      have hF : Fr no w u9 := (M.fr.trans e8 fun z hz e => by have e : z = p4 := e; omega).trans e9 fun z hz e => by have e : z = p5 := e; omega
      have tx9 := (M.tx.fr e8 (fun g hg e => by have := M.tn g hg; have e : g = p4 := e; omega)).fr e9 (fun g hg e => by have := M.tn g hg; have e : g = p5 := e; omega)
      exact retG tabOk (.inr rfl) rfl [scV T y2, vv A ca none 0 ⟨L, []⟩] ⟨⟨_, rfl, .inl ⟨rfl, _, rfl, rfl, Cs.of_blk j8⟩⟩, ⟨_, rfl, .inl ⟨rfl, _, rfl, rfl, Cs.of_blk j9⟩⟩, trivial⟩ ⟨y2, A, ca, none, 0, ⟨L, []⟩, rfl, hfin, fun e => absurd e he2, tx9, Own.nil _ _ _, fun g hg => ⟨by have := M.tn g hg; omega, fun e => by cases e⟩, fun g hg => (by cases hg), hF, M.le⟩
    · have he2 : y2.e = 0 := by simpa using c2
      have hrd : Cs u6 (some ⟨p2, 0 + 0, none⟩) [.string (sOf T), i64 y2.i] := (Cs.of_blk k2).part 0 fun j u hj => by
        match j, hj with
        | 0, h => exact h
        | 1, h => exact h
        | n + 2, h => simp at h
      have hrw : rRaw n1 T y2 = (⟨rrA T y2.i n1, rrE T y2.i n1⟩, rrV T y2.i n1) := by unfold rRaw; rw [if_pos he2]
      have hy1 : rTxt T y = (⟨rrA T y2.i n1, rrE T y2.i n1⟩, rrV T y2.i n1) := hy1.trans hrw
      have hle3 := rrA_le (n := n1) M.le
      refine sA [] rfl ?_
      refine ev_loadAgg rfl rfl tabOk rfl rfl rfl hrd ?_
      refine sA [] rfl ?_
      refine ev_call rfl rfl rfl (refReadRaw T y2.i n1 u6 M.le (by omega)) ?_
      rintro r u7 ⟨rfl, e7⟩
      have M := M.fr0 e7
      refine sA [] rfl ?_
      refine ev_alloc rfl rfl inf147 (fun pd u8 hpd kd e8 => ?_)
      refine ev_storeAgg tabOk rfl rfl rfl rfl rfl rfl kd rfl (fun u9 kd e9 => ?_)
      have e89 : Fr no u7 u9 := e8.trans e9 fun z hz e => by have : z = pd := e; omega
      have kd : Blk u9 pd [.string (sOf T), i64 (rrA T y2.i n1)] 147 := kd
      have M := M.fr0 e89
      clear k2 kv k4 k5
      have k2 := M.k2
      refine sA [] rfl ?_; refine ev_loadAggB rfl rfl tabOk rfl rfl ‹_› (by rfl) ?_; refine sA [] rfl ?_
      refine ev_build rfl rfl (v := scV T ⟨rrA T y2.i n1, rrE T y2.i n1⟩) rfl (fun w => by kernel_rfl) ?_
      refine ev_storeAgg tabOk rfl rfl rfl rfl rfl rfl k2 rfl (fun v1 j1 e10 => ?_)
      have M := M.set2 (x' := ⟨rrA T y2.i n1, rrE T y2.i n1⟩) j1 e10 hle3
      clear k2
      have kv := M.kv
      refine sA [] rfl ?_; refine ev_loadB rfl rfl tabOk rfl rfl ‹_› (by rfl) ?_; refine sA [] rfl ?_
      refine ev_append1 (vs := [sv (rrV T y2.i n1)]) tabOk rfl rfl (fun _ => rfl) rfl rfl inf9 rfl (by omega) (fun _ => rfl) rfl rfl (fun v hv => by rw [List.mem_singleton.1 hv]; rfl) (allOne_ok rfl) rfl M.tx (by omega) (fun tv' v2 bq hB e11 nB => ?_)
      obtain ⟨A', ca', htv', _, _⟩ := hB.slice
      subst htv'
      have kv2 := kv.fr e11 (fun e => by have := M.tn pv e; have := M.lt.2.1; omega)
      refine sA [] rfl ?_
      refine ev_store tabOk rfl rfl rfl rfl rfl rfl kv2 rfl (fun v3 j3 e12 => ?_)
      have M := M.setT (s := rrV T y2.i n1) hB e11 nB j3 e12
      refine sA [] rfl ?_; refine ev_arith rfl rfl rfl rfl rfl (by simp only [lowK, hiK]; omega) ?_; refine sA [] rfl ?_
      refine ev_next (k + 1, .slice A' (L.length + 1) ca', L ++ [rrV T y2.i n1]) (by show n - (k + 1) < n - k; omega) ⟨by show k + 1 ≤ n; omega, ?_, fun _ => ?_, ?_⟩ ⟨rfl, rfl, rfl, rfl, rfl, by show _ = some (i64 ((k + 1 : Nat) : Int)); rw [show ((k + 1 : Nat) : Int) = (k : Int) + 1 by omega]; rfl, trivial⟩
      · show HV w w5 v3 p2 pv p4 p5 T (rRep rTxt (k + 1) T x).1 _ nilS (L ++ [rrV T y2.i n1]) []
        rw [hrs, hy1]; exact M
      · show L ++ [rrV T y2.i n1] = (rRep rTxt (k + 1) T x).2
        rw [hrs, hy1, hLe]
      · show (L ++ [rrV T y2.i n1]).length ≤ k + 1
        rw [List.length_append]; exact Nat.succ_le_succ hLl
  have hyn : y = (rRep rTxt n T x).1 := by
    by_cases e : y.e = 0
    · have : k = n := by
        by_cases h : k < n
        · exact absurd ⟨h, e⟩ c
        · omega
      rw [← this, ← hy]
    · have h1 := rep_stick good_txt T x (k := k) (by rw [← hy]; exact e) n hk
      rw [h1, ← hy]
  have hLn : y.e = 0 → L = (rRep rTxt n T x).2 := fun e => by
    have : k = n := by
      by_cases h : k < n
      · exact absurd ⟨h, e⟩ c
      · omega
    rw [hL e, ← this, ← hy]
  clear hrs hst hL c
  obtain ⟨A, ca, htv, _, _⟩ := M.tx.slice
  subst htv
  refine sA [] rfl ?_; refine ev_loadAggB rfl rfl tabOk rfl rfl ‹_› (by rfl) ?_
  refine ev_call rfl rfl rfl (hScN T y 2 _ M.le (by omega)) ?_
  rintro r u1 ⟨rfl, e1⟩
  have M := M.fr0 e1
  have hle := (good_num 2).le T y M.le
  obtain ⟨⟨x4, ng⟩, h4⟩ : ∃ z, z = rNum 2 T y := ⟨_, rfl⟩
  rw [← h4] at hle ⊢
  clear k2
  have k2 := M.k2
  refine sA [] rfl ?_
  refine ev_storeAgg tabOk rfl rfl rfl rfl rfl rfl k2 rfl (fun u2 j2 e2 => ?_)
  have M := M.set2 (x' := x4) j2 e2 hle
  clear k2
  have k2 := M.k2
  obtain ⟨x5, h5⟩ : ∃ z, z = (rChk (decide (ng ≤ 1024)) 131 T x4).1 := ⟨_, rfl⟩
  have h5i : x5.i = x4.i := by
    rw [h5]; unfold rChk; (repeat' split) <;> rfl
  have hng0 := num2_bd h4
  refine stepF_ok tabOk [] (m := 3) rfl ?_
  refine ev_join2 (α := Unit) (fun _ => [(1, i64 n), (2, ptA p2 0), (4, ptA p4 0), (5, ptA p5 0), (6, ptA pv 0), (13, i64 ng)]) (fun _ w' => HV w w5 w' p2 pv p4 p5 T x5 (.slice A L.length ca) nilS L []) ?_ ?_
  · refine sA [] rfl ?_; refine ev_loadB rfl rfl tabOk rfl rfl ‹_› (by rfl) ?_; refine sD [] rfl ?_; refine sD [] rfl ?_
    by_cases he1 : x4.e = 0
    · rw [show decide (x4.e = 0) = true from decide_eq_true he1]
      refine sC [] rfl ?_
      refine ev_condD rfl (fun c2 => ?_) (fun c2 => ?_)
      · have h64 : ¬ ng ≤ 1024 := by have c2 : 1024 < ng := c2; omega
        have e2 : x5 = ⟨x4.i, 131⟩ := by rw [h5]; unfold rChk; rw [if_pos he1, if_neg (by simp [h64])]
        refine sA [] rfl ?_
        refine ev_store tabOk rfl rfl rfl rfl rfl rfl k2 rfl (fun u5 j5 e5 => ?_)
        have j5 : Blk u5 p2 (scC T x5) 149 := by rw [e2]; exact j5
        have M := M.set2 (x' := x5) j5 e5 (by rw [h5i]; exact hle)
        refine sA [] rfl ?_
        exact ev_out () M ⟨rfl, rfl, rfl, rfl, rfl, rfl, trivial⟩
      · have h64 : ng ≤ 1024 := by have c2 : ¬ 1024 < ng := c2; omega
        have e2 : x5 = x4 := by rw [h5]; unfold rChk; rw [if_pos he1, if_pos (by simp [h64])]
        rw [← e2] at M
        refine sA [] rfl ?_
        exact ev_out () M ⟨rfl, rfl, rfl, rfl, rfl, rfl, trivial⟩
    · rw [show decide (x4.e = 0) = false from decide_eq_false he1]
      have e2 : x5 = x4 := by rw [h5]; unfold rChk; rw [if_neg he1]
      rw [← e2] at M
      refine sA [] rfl ?_
      exact ev_out () M ⟨rfl, rfl, rfl, rfl, rfl, rfl, trivial⟩
  clear M k2 j2
  rintro ⟨⟩ u6 M
  obtain ⟨gn, hgn⟩ : ∃ gn : Nat, ng = gn := Int.eq_ofNat_of_zero_le hng0.1
  subst hgn
  have hVoc : ∀ {z : Sc} {G : List Mrg}, (z, G) = rRepG rMrg gn T x5 → rVoc n T x = (z, ⟨(rRep rTxt n T x).2, G⟩) := fun {z G} h =>
    rVoc_of (x1 := (rRep rTxt n T x).1) (x2 := x4) (k := (gn : Int)) rfl (by rw [← hyn]; exact h4) (by rw [Int.toNat_natCast, ← h5]; exact h)
  refine sA [] rfl ?_
  refine ev_loop (α := Nat × Value × List Mrg) (fun z => [(1, i64 n), (2, ptA p2 0), (4, ptA p4 0), (5, ptA p5 0), (6, ptA pv 0), (13, i64 gn), (14, i64 z.1)])
    (fun z w' => z.1 ≤ gn ∧ HV w w5 w' p2 pv p4 p5 T (rRepG rMrg z.1 T x5).1 (.slice A L.length ca) z.2.1 L z.2.2 ∧ z.2.2 = (rRepG rMrg z.1 T x5).2 ∧ z.2.2.length ≤ z.1) (fun z => gn - z.1) (0, nilS, []) ⟨rfl, rfl, rfl, rfl, rfl, rfl, rfl, trivial⟩ ⟨Nat.zero_le _, M, rfl, Nat.le_refl _⟩ ?_
  clear M
  rintro ⟨j, mv, G⟩ we ⟨hj, M, hG, hGl⟩
  have hj : j ≤ gn := hj
  simp only at M hG hGl
  obtain ⟨⟨z, G0⟩, hz⟩ : ∃ u, u = rRepG rMrg j T x5 := ⟨_, rfl⟩
  rw [← hz] at M hG
  simp only at M hG
  subst hG
  have k2 := M.k2
  refine stepF_ok tabOk [] (m := 1) rfl ?_
  refine ev_join1 (α := Bool) (fun b => [(1, i64 n), (2, ptA p2 0), (4, ptA p4 0), (5, ptA p5 0), (6, ptA pv 0), (13, i64 gn), (14, i64 j), (83, .bool b)]) (fun b w' => w' = we ∧ b = decide (j < gn ∧ z.e = 0)) ?_ ?_
  · refine sC [] rfl ?_; refine sD [] rfl ?_
    by_cases h1 : j < gn
    · rw [show decide (((j, mv, G).1 : Int) < (gn : Int)) = true from decide_eq_true (by show (j : Int) < gn; omega)]
      refine sA [] rfl ?_; refine ev_loadB rfl rfl tabOk rfl rfl ‹_› (by rfl) ?_; refine sA [] rfl ?_
      exact ev_out _ ⟨rfl, decide_eq_decide.2 ⟨fun e => ⟨h1, e⟩, fun e => e.2⟩⟩ ⟨rfl, rfl, rfl, rfl, rfl, rfl, rfl, rfl, trivial⟩
    · rw [show decide (((j, mv, G).1 : Int) < (gn : Int)) = false from decide_eq_false (by show ¬ (j : Int) < gn; omega)]
      refine sA [] rfl ?_
      exact ev_out false ⟨rfl, (decide_eq_false (fun e => h1 e.1)).symm⟩ ⟨rfl, rfl, rfl, rfl, rfl, rfl, rfl, rfl, trivial⟩
  rintro b w' ⟨rfl, rfl⟩
  skip
  refine ev_condD rfl (fun c => ?_) (fun c => ?_)
  · obtain ⟨hjn, he⟩ := c
    obtain ⟨⟨z1, a⟩, ha⟩ : ∃ u, u = rNum 2 T z := ⟨_, rfl⟩
    obtain ⟨⟨z2, b⟩, hb⟩ : ∃ u, u = rNum 2 T z1 := ⟨_, rfl⟩
    obtain ⟨⟨z3, d⟩, hd⟩ : ∃ u, u = rNum 2 T z2 := ⟨_, rfl⟩
    have hrg := repG_y hz he (rMrg_of ha hb hd).symm
    obtain ⟨B, cb, hmv, _, _⟩ := M.mg.slice
    subst hmv
    clear k2
    refine sA [] rfl ?_
    refine ev_build rfl rfl (v := .agg ⟨[i64 0, i64 0, i64 0]⟩) rfl (fun w => by kernel_rfl) ?_
    refine ev_alloc rfl rfl inf134 (fun pz u1 hpz kz e1 => ?_)
    have lz : pz < u1.heap.size := kz.lt
    have hpz5 : w5.heap.size ≤ pz := Nat.le_trans M.sz hpz
    have hzt : ∀ g, (Value.slice A L.length ca).ownBlock = some g → g ≠ pz := fun g hg e => by have := M.tx.lt hg; omega
    have hzm : ∀ g, (Value.slice B G.length cb).ownBlock = some g → g ≠ pz := fun g hg e => by have := M.mg.lt hg; omega
    have hzp : pz ≠ p2 := fun e => by have := M.lt.1; omega
    have hzv : pz ≠ pv := fun e => by have := M.lt.2.1; omega
    have M := M.fr0 e1
    refine ev_storeAgg tabOk rfl rfl rfl rfl rfl rfl kz rfl (fun u2 kz2 e2 => ?_)
    have M := M.oth hpz5 e2 hzt hzm
    have kz : Blk u2 pz [i64 0, i64 0, i64 0] 134 := kz2
    clear kz2
    have k2 := M.k2
    refine sA [] rfl ?_; refine ev_loadAggB rfl rfl tabOk rfl rfl ‹_› (by rfl) ?_
    refine ev_call rfl rfl rfl (hScN T z 2 _ M.le (by omega)) ?_
    rintro r v ⟨rfl, e1⟩
    have M := M.fr0 e1
    have kz := kz.fr0 e1
    have hle := (good_num 2).le T z M.le
    rw [← ha] at hle ⊢
    clear k2
    have k2 := M.k2
    refine sA [] rfl ?_
    refine ev_storeAgg tabOk rfl rfl rfl rfl rfl rfl k2 rfl (fun v2 j2 e2 => ?_)
    have M := M.set2 (x' := z1) j2 e2 hle
    have kz := kz.fr e2 hzp
    clear k2
    refine sA [] rfl ?_
    refine ev_store tabOk rfl rfl rfl rfl rfl rfl kz rfl (fun v3 j3 e3 => ?_)
    have M := M.oth hpz5 e3 hzt hzm
    have kz : Blk v3 pz [i64 a, i64 0, i64 0] 134 := j3
    clear j3
    have k2 := M.k2
    refine sA [] rfl ?_; refine ev_loadAggB rfl rfl tabOk rfl rfl ‹_› (by rfl) ?_
    refine ev_call rfl rfl rfl (hScN T z1 2 _ M.le (by omega)) ?_
    rintro r v ⟨rfl, e1⟩
    have M := M.fr0 e1
    have kz := kz.fr0 e1
    have hle := (good_num 2).le T z1 M.le
    rw [← hb] at hle ⊢
    clear k2
    have k2 := M.k2
    refine sA [] rfl ?_
    refine ev_storeAgg tabOk rfl rfl rfl rfl rfl rfl k2 rfl (fun v2 j2 e2 => ?_)
    have M := M.set2 (x' := z2) j2 e2 hle
    have kz := kz.fr e2 hzp
    clear k2
    refine sA [] rfl ?_
    refine ev_store tabOk rfl rfl rfl rfl rfl rfl kz rfl (fun v3 j3 e3 => ?_)
    have M := M.oth hpz5 e3 hzt hzm
    have kz : Blk v3 pz [i64 a, i64 b, i64 0] 134 := j3
    clear j3
    have k2 := M.k2
    refine sA [] rfl ?_; refine ev_loadAggB rfl rfl tabOk rfl rfl ‹_› (by rfl) ?_
    refine ev_call rfl rfl rfl (hScN T z2 2 _ M.le (by omega)) ?_
    rintro r v ⟨rfl, e1⟩
    have M := M.fr0 e1
    have kz := kz.fr0 e1
    have hle := (good_num 2).le T z2 M.le
    rw [← hd] at hle ⊢
    clear k2
    have k2 := M.k2
    refine sA [] rfl ?_
    refine ev_storeAgg tabOk rfl rfl rfl rfl rfl rfl k2 rfl (fun v2 j2 e2 => ?_)
    have M := M.set2 (x' := z3) j2 e2 hle
    have kz := kz.fr e2 hzp
    clear k2
    refine sA [] rfl ?_
    refine ev_store tabOk rfl rfl rfl rfl rfl rfl kz rfl (fun v3 j3 e3 => ?_)
    have M := M.oth hpz5 e3 hzt hzm
    have kz : Blk v3 pz [i64 a, i64 b, i64 d] 134 := j3
    clear j3
    have kv := M.kv
    refine sA [] rfl ?_; refine ev_loadB rfl rfl tabOk rfl rfl ‹_› (by rfl) ?_; refine ev_loadAggB rfl rfl tabOk rfl rfl ‹_› (by rfl) ?_
    refine ev_append1 (vs := [.agg ⟨mrg1 (a, b, d)⟩]) tabOk rfl rfl (fun _ => rfl) rfl rfl inf134 rfl (by omega) (fun _ => rfl) rfl rfl (fun v hv => by rw [List.mem_singleton.1 hv]; rfl) (allOne_ok rfl) rfl M.mg (by omega) (fun mv' v4 bq hB e11 nB => ?_)
    have hB : Own v4 134 3 mv' (G.length + 1) (mcs (G ++ [(a, b, d)])) := by
      have e : mcs (G ++ [(a, b, d)]) = mcs G ++ flatV [.agg ⟨mrg1 (a, b, d)⟩] := by unfold mcs; rw [List.flatMap_append]; rfl
      rw [e]; exact hB
    obtain ⟨B', cb', hmv', _, _⟩ := hB.slice
    subst hmv'
    have kv2 := kv.fr e11 (fun e => by have := M.mn pv e; have := M.lt.2.1; omega)
    refine sA [] rfl ?_
    refine ev_store tabOk rfl rfl rfl rfl rfl rfl kv2 rfl (fun v5 j5 e12 => ?_)
    have M := M.setM (s := (a, b, d)) hB e11 nB j5 e12
    refine sA [] rfl ?_; refine ev_arith rfl rfl rfl rfl rfl (by simp only [lowK, hiK]; omega) ?_; refine sA [] rfl ?_
    refine ev_next (j + 1, .slice B' (G.length + 1) cb', G ++ [(a, b, d)]) (by show gn - (j + 1) < gn - j; omega) ⟨by show j + 1 ≤ gn; omega, ?_, ?_, ?_⟩ ⟨rfl, rfl, rfl, rfl, rfl, rfl, by show _ = some (i64 ((j + 1 : Nat) : Int)); rw [show ((j + 1 : Nat) : Int) = (j : Int) + 1 by omega]; rfl, trivial⟩
    · show HV w w5 v5 p2 pv p4 p5 T (rRepG rMrg (j + 1) T x5).1 (.slice A L.length ca) _ L (G ++ [(a, b, d)])
      rw [hrg]; exact M
    · show G ++ [(a, b, d)] = (rRepG rMrg (j + 1) T x5).2
      rw [hrg]
    · show (G ++ [(a, b, d)]).length ≤ j + 1
      rw [List.length_append]; exact Nat.succ_le_succ hGl
  have hzn : (z, G) = rRepG rMrg gn T x5 := by
    by_cases e : z.e = 0
    · have : j = gn := by
        by_cases h : j < gn
        · exact absurd ⟨h, e⟩ c
        · omega
      rw [← this]; exact hz
    · rw [repG_stick good_mrg T x5 (k := j) (by rw [← hz]; exact e) gn hj]; exact hz
  have hV := hVoc hzn
  obtain ⟨B, cb, hmv, _, _⟩ := M.mg.slice
  subst hmv
  refine sA [] rfl ?_
  refine mixC_in (fun w' => Blk w' p2 (scC T z) 149 ∧ Blk w' pv [.slice A L.length ca, .slice B G.length cb] 53) mixed (fun u7 e7 => ?_)
  have M := M.fr0 e7
  refine m_loadAgg 0 rfl rfl rfl (by kernel_rfl) (by kernel_rfl) rfl rfl tabOk rfl rfl rfl (fun w' h => Cs.of_blk h.1) ?_
  refine m_loadAgg 1 rfl rfl rfl (by kernel_rfl) (by kernel_rfl) rfl rfl tabOk rfl rfl rfl (fun w' h => Cs.of_blk h.2) ?_
  obtain ⟨y1, y2, y3, y4, y5, y6⟩ := M.ne
  obtain ⟨g1, g2, g3, g4, g5⟩ := M.ge
  obtain ⟨q1, q2, q3, q4⟩ := M.lt
  refine mix1 rfl rfl ?_ ⟨M.k2, M.kv⟩
  refine ev_storeAgg tabOk rfl rfl rfl rfl rfl rfl M.k4 rfl (fun u8 j8 e8 => ?_)
  have c1 := M.k2.fr e8 y2
  have c2' := M.kv.fr e8 y4
  have c5 := M.k5.fr e8 (fun e => y6 e.symm)
  refine mix_op ?_
  refine mix1 rfl rfl ?_ ⟨c1, c2'⟩
  refine ev_storeAgg tabOk rfl rfl rfl rfl rfl rfl c5 rfl (fun u9 j9 e9 => ?_)
  have j8 := j8.fr e9 y6
  refine mix_op ?_
  refine mix_out rfl ?_ ⟨c1.fr e9 y3, c2'.fr e9 y5⟩
  refine sA [] rfl ?_
  have hF : Fr no w u9 := (M.fr.trans e8 fun z hz e => by have e : z = p4 := e; omega).trans e9 fun z hz e => by have e : z = p5 := e; omega
  have tx9 := (M.tx.fr e8 (fun g hg e => by have := M.tn g hg; have e : g = p4 := e; omega)).fr e9 (fun g hg e => by have := M.tn g hg; have e : g = p5 := e; omega)
  have mg9 := (M.mg.fr e8 (fun g hg e => by have := M.mn g hg; have e : g = p4 := e; omega)).fr e9 (fun g hg e => by have := M.mn g hg; have e : g = p5 := e; omega)
  refine retG tabOk (.inr rfl) rfl [scV T z, vv A ca B cb ⟨L, G⟩] ⟨⟨_, rfl, .inl ⟨rfl, _, rfl, rfl, Cs.of_blk j8⟩⟩, ⟨_, rfl, .inl ⟨rfl, _, rfl, rfl, Cs.of_blk j9⟩⟩, trivial⟩ ⟨z, A, ca, B, cb, ⟨L, G⟩, rfl, by rw [hV], fun e => ?_, tx9, mg9, fun g hg => ⟨by have := M.tn g hg; omega, M.tm g hg⟩, fun g hg => by have := M.mn g hg; omega, hF, M.le⟩
  rw [hV]
  have he5 : x5.e = 0 := (good_repG good_mrg gn).e0 (t := T) (x := x5) (by rw [← hzn]; exact e)
  have he4 : x4.e = 0 := (good_chk (decide ((gn : Int) ≤ 1024)) 131).e0 (t := T) (x := x4) (by rw [← h5]; exact he5)
  have hey : y.e = 0 := (good_num 2).e0 (t := T) (x := y) (by rw [← h4]; exact he4)
  rw [hLn hey]
end Go.Wk.YtdelgnflcfhhkaaGreatDoor
