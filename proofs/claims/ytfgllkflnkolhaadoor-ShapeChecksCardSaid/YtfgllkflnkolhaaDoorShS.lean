/-
  Chapter 16: Valid and Reaches.
-/
import Derived.Test.YtfgllkflnkolhaaDoorShR
set_option linter.unusedVariables false
namespace Go.Wk.YtfgllkflnkolhaaDoor
open Go Go.Wk Go.Proofs

/-- the first reach that is too far -/
def farQ (l : List Int) : Option Nat := (List.range l.length).find? fun i => decide (268435456 < l.getD i 0)
/-- what is wrong but for the reaches -/
def allQ (m : Md) : Int × Int × Int :=
  if okS m.s then if (wordsQ m.s m.V).2.2 = 0 then partsQ m (halfS m.s) else wordsQ m.s m.V else (1, 0, 160)
def validQ (m : Md) : Int × Int × Int :=
  if (allQ m).2.2 = 0 then (farQ (reachQ m)).elim (0, 0, 0) fun i => (9, i, 163) else allQ m
theorem allQ_ok {m : Md} (h : (allQ m).2.2 = 0) : okS m.s ∧ (wordsQ m.s m.V).2.2 = 0 ∧ PartsOk m := by
  unfold allQ at h
  split at h
  · rename_i h1
    split at h
    · rename_i h2
      exact ⟨h1, h2, parts_ok h h1⟩
    · rename_i h2; exact absurd h h2
  · cases h
theorem words_bd {s : Shp} {V : VV} : (wordsQ s V).2.2 = 0 → wordsQ s V = (0, 0, 0) := by
  unfold wordsQ
  split
  · split
    · intro _; rfl
    · intro h; cases h
  · rename_i h; intro h2; exact absurd h2 h
/-- rows do not reach past their room -/
def LM.Cap (m : LM) : Prop := ∀ b ∈ m.bs, b.o.xs.length ≤ b.o.c ∧ b.dn.xs.length ≤ b.dn.c
set_option maxHeartbeats 4000000 in
theorem wValid (m : LM) (w : World) (hm : m.At w) (hS : VS m.V) (hbl : m.bs.length ≤ 1000000) (hcap : m.Cap) :
    CallsF Tryd.prog 23 [lmV m] w fun r w' => r = whV (validQ m.p) ∧ Fr no w w' := by
  unfold validQ allQ
  refine callsF Tryd.func23 rfl rfl (by decide) rfl ?_
  refine sA [] rfl ?_
  refine ev_box rfl rfl rfl fun p w1 hp kp f1 => ?_
  refine ev_alloc rfl rfl inf63 (fun q w2 hq kq f2 => ?_)
  have kp2 := kp.fr0 f2
  have hf2 := f1.tr f2
  have hpl := kp.lt
  have hql := kq.lt
  clear kp
  refine sA [] rfl ?_
  have hsh : Cs w2 (some ⟨p, 0, none⟩) (shpC m.s) :=
    (Cs.of_blk kp2).part 0 fun j u hj => match j, hj with
      | 0, h => h | 1, h => h | 2, h => h | 3, h => h | 4, h => h | 5, h => h | n + 6, h => by simp at h
  refine ev_loadAgg rfl rfl tabOk rfl rfl rfl hsh ?_
  refine ev_call rfl rfl rfl (wChk m.s w2) ?_
  rintro r w3 ⟨rfl, f3⟩
  have kp3 := kp2.fr0 f3
  have kq3 := kq.fr0 f3
  have hf3 := hf2.tr f3
  clear hsh kp2 kq
  by_cases hs : okS m.s
  case neg =>
    rw [chk_n hs, if_neg (show ¬ okS m.p.s from hs), if_neg (by simp)]
    refine sA [] rfl ?_
    refine ev_build rfl rfl (v := .agg ⟨[i64 1, i64 0]⟩) rfl (fun w => by kernel_rfl) ?_
    refine sA [] rfl ?_
    refine ev_storeAgg tabOk rfl rfl rfl rfl rfl rfl kq3 rfl (fun wz kz fz => ?_)
    refine sA [] rfl ?_
    exact retG tabOk (.inr rfl) rfl [.agg ⟨[i64 1, i64 0]⟩, i64 160] ⟨⟨_, rfl, .inl ⟨rfl, _, rfl, rfl, Cs.of_blk kz⟩⟩, rfl, trivial⟩ ⟨rfl, hf3.trans fz fun z hz e => by have : z = q := e; have := f1.size; omega⟩
  rw [chk_y hs, if_pos (show okS m.p.s from hs)]
  refine sA [] rfl ?_; refine ev_loadAggB rfl rfl tabOk rfl rfl ‹_› (by rfl) ?_
  refine ev_call rfl rfl rfl (wWords m w3 (hm.fr0 hf3) hS) ?_
  rintro r w4 ⟨rfl, f4⟩
  have kp4 := kp3.fr0 f4
  have kq4 := kq3.fr0 f4
  have hf4 := hf3.tr f4
  clear kp3 kq3
  rw [show wordsQ m.s m.V = wordsQ m.p.s m.p.V from rfl]
  obtain ⟨⟨a1, a2, a3⟩, ha⟩ : ∃ a, a = wordsQ m.p.s m.p.V := ⟨_, rfl⟩
  rw [← ha]
  have s1 := f1.size
  have s2 := f2.size
  have s3 := f3.size
  have s4 := f4.size
  have hpl : p < w1.heap.size := hpl
  have hql : q < w2.heap.size := hql
  refine sA [] rfl ?_
  refine ev_alloc rfl rfl inf63 (fun c w5 hc kc f5 => ?_)
  have kp5 := kp4.fr0 f5
  have kq5 := kq4.fr0 f5
  have hf5 := hf4.tr f5
  clear kp4 kq4
  skip
  refine ev_storeAgg tabOk rfl rfl rfl rfl rfl rfl kc rfl (fun w6 kc6 f6 => ?_)
  have kp6 := kp5.fr f6 (fun e => by have : p = c := e; omega)
  have kq6 := kq5.fr f6 (fun e => by have : q = c := e; omega)
  have hf6 : Fr no w w6 := hf5.trans f6 fun z hz e => by have : z = c := e; omega
  have s5 := f5.size
  have s6 := f6.size
  clear kp5 kq5 kc
  refine sC [] rfl ?_; refine sD [] rfl ?_; refine sD [] rfl ?_; refine sD [] rfl ?_
  refine ev_condD rfl (fun c1 => ?_) (fun c1 => ?_)
  · rw [if_neg (show ¬ (a1, a2, a3).2.2 = 0 from c1), if_neg (show ¬ (a1, a2, a3).2.2 = 0 from c1)]
    refine sA [] rfl ?_; refine ev_loadAggB rfl rfl tabOk rfl rfl ‹_› (by rfl) ?_; refine sA [] rfl ?_
    refine ev_storeAgg tabOk rfl rfl rfl rfl rfl rfl kq6 rfl (fun wz kz fz => ?_)
    refine sA [] rfl ?_
    exact retG tabOk (.inr rfl) rfl [.agg ⟨[i64 a1, i64 a2]⟩, i64 a3] ⟨⟨_, rfl, .inl ⟨rfl, _, rfl, rfl, Cs.of_blk kz⟩⟩, rfl, trivial⟩ ⟨rfl, hf6.trans fz fun z hz e => by have : z = q := e; omega⟩
  rw [if_pos (show (a1, a2, a3).2.2 = 0 by simpa using c1)]
  clear kc6 ha
  refine sA [] rfl ?_; refine ev_loadAggB rfl rfl tabOk rfl rfl ‹_› (by rfl) ?_
  refine ev_call rfl rfl rfl (wParts m w6 (hm.fr0 hf6) hs hbl) ?_
  rintro r w7 ⟨rfl, f7⟩
  have kp7 := kp6.fr0 f7
  have kq7 := kq6.fr0 f7
  have hf7 := hf6.tr f7
  have s7 := f7.size
  clear kp6 kq6
  rw [show partsQ m.p (halfS m.s) = partsQ m.p (halfS m.p.s) from rfl]
  obtain ⟨⟨b1, b2, b3⟩, hb⟩ : ∃ a, a = partsQ m.p (halfS m.p.s) := ⟨_, rfl⟩
  rw [← hb]
  refine sA [] rfl ?_
  refine ev_alloc rfl rfl inf63 (fun d w8 hd kd f8 => ?_)
  have kp8 := kp7.fr0 f8
  have kq8 := kq7.fr0 f8
  have hf8 := hf7.tr f8
  clear kp7 kq7
  skip
  refine ev_storeAgg tabOk rfl rfl rfl rfl rfl rfl kd rfl (fun w9 kd9 f9 => ?_)
  have kp9 := kp8.fr f9 (fun e => by have : p = d := e; omega)
  have kq9 := kq8.fr f9 (fun e => by have : q = d := e; omega)
  have hf9 : Fr no w w9 := hf8.trans f9 fun z hz e => by have : z = d := e; omega
  have s8 := f8.size
  have s9 := f9.size
  clear kp8 kq8 kd
  refine sC [] rfl ?_; refine sD [] rfl ?_; refine sD [] rfl ?_; refine sD [] rfl ?_
  refine ev_condD rfl (fun c2 => ?_) (fun c2 => ?_)
  · rw [if_neg (show ¬ (b1, b2, b3).2.2 = 0 from c2)]
    refine sA [] rfl ?_; refine ev_loadAggB rfl rfl tabOk rfl rfl ‹_› (by rfl) ?_; refine sA [] rfl ?_
    refine ev_storeAgg tabOk rfl rfl rfl rfl rfl rfl kq9 rfl (fun wz kz fz => ?_)
    refine sA [] rfl ?_
    exact retG tabOk (.inr rfl) rfl [.agg ⟨[i64 b1, i64 b2]⟩, i64 b3] ⟨⟨_, rfl, .inl ⟨rfl, _, rfl, rfl, Cs.of_blk kz⟩⟩, rfl, trivial⟩ ⟨rfl, hf9.trans fz fun z hz e => by have : z = q := e; omega⟩
  have hb3 : b3 = 0 := by simpa using c2
  rw [if_pos (show (b1, b2, b3).2.2 = 0 from hb3)]
  clear kd9
  have hp : PartsOk m.p := parts_ok (half := halfS m.p.s) (by rw [← hb]; exact hb3) hs
  have hlay : (m.p.bs.length : Int) = m.s.lay := hp.lay
  have hlen : m.p.bs.length = m.bs.length := by simp [LM.p]
  have hrl : (reachQ m.p).length = 1 + 2 * m.bs.length := by rw [← rN_all, rN_len _ _ (Nat.le_refl _), hlen]
  refine sA [] rfl ?_; refine ev_loadAggB rfl rfl tabOk rfl rfl ‹_› (by rfl) ?_
  refine ev_call rfl rfl rfl (wReaches0 m w9 (hm.fr0 hf9) hs hp hcap) ?_
  rintro r wa ⟨⟨A, ca, rfl, hA⟩, fa⟩
  have kqa := kq9.fr0 fa
  have hfa := hf9.tr fa
  clear kp9 kq9
  have hn : m.bs.length ≤ 1000000 := hbl
  obtain ⟨l, hl⟩ : ∃ l, l = reachQ m.p := ⟨_, rfl⟩
  rw [← hl] at hA hrl ⊢
  obtain ⟨n, hn'⟩ : ∃ n, n = 1 + 2 * m.bs.length := ⟨_, rfl⟩
  rw [← hn'] at hrl ⊢
  refine sA [] rfl ?_
  refine ev_loop (α := Nat) (fun y => [(2, .pointer (some ⟨q, 0, none⟩)), (3, i64 0), (37, .slice A n ca), (38, i64 n), (39, i64 y)])
    (fun y w' => y ≤ n ∧ Fr no w w' ∧ Blk w' q [i64 0, i64 0] 63 ∧ Cs w' A (l.map i64) ∧ ∀ i < y, ¬ 268435456 < l.getD i 0) (fun y => n - y) 0 ⟨rfl, rfl, rfl, rfl, rfl, trivial⟩ ⟨Nat.zero_le _, hfa, kqa, hA, fun i h => absurd h (Nat.not_lt_zero _)⟩ ?_
  clear hfa kqa hA
  rintro y wb ⟨hy, hfb, kqb, hA, hz⟩
  refine sC [] rfl ?_; refine sD [] rfl ?_
  refine ev_condD rfl (fun c3 => ?_) (fun c3 => ?_)
  · have hyl : y < l.length := by omega
    obtain ⟨g, o, hAe, hcell⟩ := hA y (i64 (l.getD y 0)) (by simp [List.getElem?_eq_getElem hyl])
    subst hAe
    obtain ⟨x, hx⟩ : ∃ x, x = l.getD y 0 := ⟨_, rfl⟩
    rw [← hx] at hcell
    refine sA [] rfl ?_
    refine ev_indexAddr rfl rfl tabOk rfl rfl rfl (by omega) (by omega) ?_
    rw [show o + (y : Int).toNat * 1 = o + y by omega]
    refine ev_load rfl rfl tabOk rfl rfl hcell ?_
    refine sC [] rfl ?_; refine sC [] rfl ?_
    refine ev_condD rfl (fun c4 => ?_) (fun c4 => ?_)
    · have hf : farQ l = some y := List.find?_range_eq_some.2 ⟨by rw [← hx]; simpa using c4, List.mem_range.2 hyl, fun j hj => by simpa using hz j hj⟩
      rw [hf, Option.elim_some]
      refine sA [] rfl ?_
      refine ev_build rfl rfl (v := .agg ⟨[i64 9, i64 y]⟩) rfl (fun w => by kernel_rfl) ?_
      skip
      refine ev_storeAgg tabOk rfl rfl rfl rfl rfl rfl kqb rfl (fun wz kz fz => ?_)
      refine sA [] rfl ?_
      exact retG tabOk (.inr rfl) rfl [.agg ⟨[i64 9, i64 y]⟩, i64 163] ⟨⟨_, rfl, .inl ⟨rfl, _, rfl, rfl, Cs.of_blk kz⟩⟩, rfl, trivial⟩ ⟨rfl, hfb.trans fz fun z hz e => by have : z = q := e; omega⟩
    · refine sA [] rfl ?_; refine ev_arith rfl rfl rfl rfl rfl (by simp only [lowK, hiK]; omega) ?_; refine sA [] rfl ?_
      refine ev_next (y + 1) (by omega) ⟨by omega, hfb, kqb, hA, fun i hi => by
        by_cases h : i = y
        · rw [h, ← hx]; exact c4
        · exact hz i (by omega)⟩ ⟨rfl, rfl, rfl, rfl, by rw [show ((y + 1 : Nat) : Int) = (y : Int) + 1 by omega]; rfl, trivial⟩
  · have hf : farQ l = none := List.find?_eq_none.2 fun i hi => by simpa using hz i (by have := List.mem_range.1 hi; omega)
    rw [hf, Option.elim_none]
    refine sA [] rfl ?_
    refine ev_build rfl rfl (v := .agg ⟨[i64 0, i64 0]⟩) rfl (fun w => by kernel_rfl) ?_
    skip
    refine ev_storeAgg tabOk rfl rfl rfl rfl rfl rfl kqb rfl (fun wz kz fz => ?_)
    refine sA [] rfl ?_
    exact retG tabOk (.inr rfl) rfl [.agg ⟨[i64 0, i64 0]⟩, i64 0] ⟨⟨_, rfl, .inl ⟨rfl, _, rfl, rfl, Cs.of_blk kz⟩⟩, rfl, trivial⟩ ⟨rfl, hfb.trans fz fun z hz e => by have : z = q := e; omega⟩
/-- what Reaches answers -/
def reachL (m : Md) : List Int := if (allQ m).2.2 = 0 then reachQ m else []
theorem chk_err (v : VV) : v.chk.2 = 0 ∨ v.chk.2 = 130 ∨ v.chk.2 = 131 := by
  unfold VV.chk
  (repeat' split) <;> simp
theorem block_err (s : Shp) (b : Bk (List Int8)) : blockQ s b = 0 ∨ blockQ s b = 161 ∨ blockQ s b = 162 := by
  unfold blockQ
  (repeat' split) <;> simp
theorem parts_err (m : Md) (h : Int) : (partsQ m h).2.2 = 0 ∨ (partsQ m h).2.2 = 161 ∨ (partsQ m h).2.2 = 162 := by
  unfold partsQ
  split
  · simp
  split
  · simp
  split
  · simp
  split
  · simp
  cases (List.range (blkN m.s m.bs)).find? (fun i => !decide (blkAt m.s m.bs i = 0)) with
  | none =>
    rw [Option.elim_none]
    unfold tailQ
    (repeat' split) <;> simp
  | some i =>
    rw [Option.elim_some]
    show blkAt m.s m.bs i = 0 ∨ blkAt m.s m.bs i = 161 ∨ blkAt m.s m.bs i = 162
    unfold blkAt
    split
    · split
      · exact block_err _ _
      · simp
    · simp
theorem all_err (m : Md) : (allQ m).2.2 ≠ 163 := by
  unfold allQ
  split
  · split
    · have := parts_err m (halfS m.s); omega
    · unfold wordsQ
      have := chk_err m.V
      (repeat' split) <;> simp <;> omega
  · simp
theorem valid_err (m : Md) : ((validQ m).2.2 = 0 ∨ (validQ m).2.2 = 163) ↔ (allQ m).2.2 = 0 := by
  unfold validQ
  split
  · rename_i h
    refine ⟨fun _ => h, fun _ => ?_⟩
    cases farQ (reachQ m) <;> simp
  · rename_i h
    have := all_err m
    exact ⟨fun h2 => h2.elim (fun z => z) (fun z => absurd z this), fun z => absurd z h⟩
theorem valid_bad {m : Md} (h : (allQ m).2.2 ≠ 0) : validQ m = allQ m := by unfold validQ; rw [if_neg h]
set_option maxHeartbeats 4000000 in
theorem wReaches (m : LM) (w : World) (hm : m.At w) (hS : VS m.V) (hbl : m.bs.length ≤ 1000000) (hcap : m.Cap) :
    CallsF Tryd.prog 25 [lmV m] w fun r w' => (∃ A c, r = .tuple #[.slice A (reachL m.p).length c, i64 (allQ m.p).2.2] ∧ Cs w' A ((reachL m.p).map i64)) ∧ Fr no w w' := by
  have hv := valid_err m.p
  refine callsF Tryd.func25 rfl rfl (by decide) rfl ?_
  refine sA [] rfl ?_
  refine ev_box rfl rfl rfl fun p w1 hp kp f1 => ?_
  refine sA [] rfl ?_; refine ev_loadAggB rfl rfl tabOk rfl rfl ‹_› (by rfl) ?_
  refine ev_call rfl rfl rfl (wValid m w1 (hm.fr0 f1) hS hbl hcap) ?_
  rintro r w2 ⟨rfl, f2⟩
  have kp2 := kp.fr0 f2
  have hf2 := f1.tr f2
  have hpl := kp.lt
  clear kp
  obtain ⟨⟨a1, a2, a3⟩, ha⟩ : ∃ a, a = validQ m.p := ⟨_, rfl⟩
  rw [← ha] at hv ⊢
  have hv : (a3 = 0 ∨ a3 = 163) ↔ (allQ m.p).2.2 = 0 := hv
  refine sA [] rfl ?_
  refine ev_alloc rfl rfl inf63 (fun d w3 hd kd f3 => ?_)
  have kp3 := kp2.fr0 f3
  have hf3 := hf2.tr f3
  have s2 := f2.size
  have s1 := f1.size
  clear kp2
  skip
  refine ev_storeAgg tabOk rfl rfl rfl rfl rfl rfl kd rfl (fun w4 kd4 f4 => ?_)
  have kp4 := kp3.fr f4 (fun e => by have : p = d := e; omega)
  have hf4 : Fr no w w4 := hf3.trans f4 fun z hz e => by have : z = d := e; omega
  clear kp3 kd kd4
  have bad : ¬ (a3 = 0 ∨ a3 = 163) → reachL m.p = [] ∧ (allQ m.p).2.2 = a3 := fun h => by
    have h2 : (allQ m.p).2.2 ≠ 0 := fun z => h (hv.2 z)
    exact ⟨if_neg h2, by rw [← valid_bad h2, ← ha]⟩
  refine sC [] rfl ?_; refine sD [] rfl ?_; refine sD [] rfl ?_; refine sD [] rfl ?_
  have good : (allQ m.p).2.2 = 0 → CallsF Tryd.prog 57 [lmV m] w4 fun r w' => (∃ A c, r = .slice A (reachL m.p).length c ∧ Cs w' A ((reachL m.p).map i64)) ∧ Fr no w4 w' := fun h0 => by
    obtain ⟨o1, _, o3⟩ := allQ_ok h0
    have hlen : m.p.bs.length = m.bs.length := by simp [LM.p]
    rw [show reachL m.p = reachQ m.p from if_pos h0, show (reachQ m.p).length = 1 + 2 * m.bs.length by rw [← rN_all, rN_len _ _ (Nat.le_refl _), hlen]]
    exact wReaches0 m w4 (hm.fr0 hf4) o1 o3 hcap
  by_cases c1 : a3 = 0
  · have h0 := hv.1 (.inl c1)
    rw [show decide (¬ (a1, a2, a3).2.2 = 0) = false from decide_eq_false fun z => z c1]
    refine sA [] rfl ?_; refine ev_loadAggB rfl rfl tabOk rfl rfl ‹_› (by rfl) ?_
    refine ev_call rfl rfl rfl (good h0) ?_
    rintro r w5 ⟨⟨A, c, rfl, hA⟩, f5⟩
    refine sA [] rfl ?_
    exact ret2 (.inr rfl) rfl rfl rfl ⟨⟨A, c, by rw [h0], hA⟩, hf4.tr f5⟩
  · rw [show decide (¬ (a1, a2, a3).2.2 = 0) = true from decide_eq_true c1]
    refine sC [] rfl ?_
    by_cases c2 : a3 = 163
    · have h0 := hv.1 (.inr c2)
      rw [show decide (¬ (a1, a2, a3).2.2 = 163) = false from decide_eq_false fun z => z c2]
      refine sA [] rfl ?_; refine ev_loadAggB rfl rfl tabOk rfl rfl ‹_› (by rfl) ?_
      refine ev_call rfl rfl rfl (good h0) ?_
      rintro r w5 ⟨⟨A, c, rfl, hA⟩, f5⟩
      refine sA [] rfl ?_
      exact ret2 (.inr rfl) rfl rfl rfl ⟨⟨A, c, by rw [h0], hA⟩, hf4.tr f5⟩
    · obtain ⟨e1, e2⟩ := bad (fun h => h.elim c1 c2)
      rw [show decide (¬ (a1, a2, a3).2.2 = 163) = true from decide_eq_true c2]
      refine sA [] rfl ?_
      exact ret2 (.inr rfl) rfl rfl rfl ⟨⟨none, 0, by rw [e1, e2]; rfl, by rw [e1]; exact Cs.nil _ _⟩, hf4⟩
end Go.Wk.YtfgllkflnkolhaaDoor
