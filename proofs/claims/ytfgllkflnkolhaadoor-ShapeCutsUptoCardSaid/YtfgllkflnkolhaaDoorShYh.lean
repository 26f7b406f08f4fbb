/-
  Chapter 16: shape.Same.
-/
import Derived.Test.YtfgllkflnkolhaaDoorShYg
set_option linter.unusedVariables false
namespace Go.Wk.YtfgllkflnkolhaaDoor
open Go Go.Wk Go.Proofs

set_option maxHeartbeats 2000000 in
theorem wEq8 (r u : Rw) (w : World) (hr : r.At w) (hu : u.At w) (hl : r.xs.length ≤ 1000000000) :
    CallsF Tryd.prog 77 [r.v, u.v] w fun z w' => z = .bool (decide (r.xs = u.xs)) ∧ Fr no w w' := by
  obtain ⟨A, c, xs⟩ := r
  obtain ⟨B, d, ys⟩ := u
  have hr : Cs w A (xs.map i8v) := hr
  have hu : Cs w B (ys.map i8v) := hu
  have hl : xs.length ≤ 1000000000 := hl
  refine callsF Tryd.func77 rfl rfl (by decide) rfl ?_
  refine sC [] rfl ?_; refine sC [] rfl ?_; refine sC [] rfl ?_; refine sD [] rfl ?_
  refine ev_condD rfl (fun c1 => ?_) (fun c1 => ?_)
  · refine sA [] rfl ?_
    exact ret1 (.inr rfl) rfl rfl ⟨by rw [decide_eq_false (fun h => c1 (by rw [show xs = ys from h]))], Fr.refl _ _⟩
  have hlen : xs.length = ys.length := by have c1 : (xs.length : Int) = ys.length := Decidable.not_not.1 c1; omega
  refine sA [] rfl ?_
  refine ev_loop (α := Nat) (fun y => [(0, .slice A xs.length c), (1, .slice B ys.length d), (12, i64 xs.length), (13, i64 y)]) (fun y w' => y ≤ xs.length ∧ Fr no w w' ∧ ∀ i (h : i < xs.length), i < y → xs[i] = ys[i]'(by omega)) (fun y => xs.length - y) 0 ⟨rfl, rfl, rfl, rfl, trivial⟩ ⟨Nat.zero_le _, Fr.refl _ _, fun i _ h => absurd h (Nat.not_lt_zero _)⟩ ?_
  rintro y w1 ⟨hy, hF, hz⟩
  refine sC [] rfl ?_; refine sD [] rfl ?_
  refine ev_condD rfl (fun c2 => ?_) (fun c2 => ?_)
  · have h1 : y < xs.length := by omega
    have h2 : y < ys.length := by omega
    obtain ⟨g, o, rfl, hcx⟩ := i8_at (hr.fr0 hF) h1
    obtain ⟨g2, o2, rfl, hcy⟩ := i8_at (hu.fr0 hF) h2
    obtain ⟨a, ha⟩ : ∃ a, a = xs[y].toInt := ⟨_, rfl⟩
    obtain ⟨b, hb⟩ : ∃ b, b = ys[y].toInt := ⟨_, rfl⟩
    rw [← ha] at hcx
    rw [← hb] at hcy
    refine sA [] rfl ?_
    refine ev_draw mixed (by kernel_rfl) ?_
    refine qA rfl ?_
    refine q_indexAddr rfl rfl tabOk rfl rfl rfl (by omega) (by omega) ?_
    refine q_load rfl rfl tabOk rfl rfl (fun _ hf => cell_fr (by assumption) hf id) ?_; refine qA rfl ?_
    refine q_indexAddr rfl rfl tabOk rfl rfl rfl (by omega) (by omega) ?_
    refine q_load rfl rfl tabOk rfl rfl (fun _ hf => cell_fr (by assumption) hf id) ?_; refine qA rfl ?_
    refine q_end fun w2 f2 => ?_
    refine ev_condD rfl (fun c3 => ?_) (fun c3 => ?_)
    · refine sA [] rfl ?_
      exact ret1 (.inr rfl) rfl rfl ⟨by
        rw [decide_eq_false fun h => c3 ?_]
        have h : xs = ys := h
        rw [ha, hb]; subst h; rfl, hF.tr f2⟩
    · have c3 := Decidable.not_not.1 c3
      refine sA [] rfl ?_; refine ev_arith rfl rfl rfl rfl rfl (by simp only [lowK, hiK]; omega) ?_; refine sA [] rfl ?_
      refine ev_next (y + 1) (by omega) ⟨by omega, hF.tr f2, fun i h hi => ?_⟩ ⟨rfl, rfl, rfl, by rw [show ((y + 1 : Nat) : Int) = (y : Int) + 1 by omega]; rfl, trivial⟩
      by_cases e : i = y
      · subst e; exact Int8.toInt_inj.1 (by rw [← ha, ← hb]; exact c3)
      · exact hz i h (by omega)
  · obtain rfl : y = xs.length := by omega
    refine sA [] rfl ?_
    exact ret1 (.inr rfl) rfl rfl ⟨by rw [decide_eq_true (show xs = ys from List.ext_getElem hlen fun i h _ => hz i h h)], hF⟩
/-- two rows side by side -/
abbrev prC (p : Rw × Rw) : List Value := [p.1.v, p.2.v]
def alikeQ (l : List (Rw × Rw)) : Bool := l.all fun p => decide (p.1.xs = p.2.xs)
theorem alikeQ_take {l : List (Rw × Rw)} {i : Nat} (h : i < l.length) : alikeQ (l.take (i + 1)) = (alikeQ (l.take i) && decide (l[i].1.xs = l[i].2.xs)) := by
  unfold alikeQ; rw [List.take_succ_eq_append_getElem h, List.all_append]; simp
theorem alikeQ_bad {l : List (Rw × Rw)} {i : Nat} (h : i < l.length) (hb : ¬ l[i].1.xs = l[i].2.xs) : alikeQ l = false := by
  unfold alikeQ; rw [List.all_eq_false]; exact ⟨l[i], List.getElem_mem h, by simpa using hb⟩
theorem prC_len (p : Rw × Rw) : (prC p).length = 2 := rfl
set_option maxHeartbeats 2000000 in
theorem wAlike (A : Option Addr) (l : List (Rw × Rw)) (cap : Nat) (w : World) (hA : Cs w A (l.flatMap prC)) (hat : ∀ p ∈ l, p.1.At w ∧ p.2.At w ∧ p.1.xs.length ≤ 1000000000) (hl : l.length ≤ 1000000) :
    CallsF Tryd.prog 61 [.slice A l.length cap] w fun r w' => r = .bool (alikeQ l) ∧ Fr no w w' := by
  refine callsF Tryd.func61 rfl rfl (by decide) rfl ?_
  refine sA [] rfl ?_
  refine ev_loop (α := Nat) (fun y => [(5, .slice A l.length cap), (6, i64 l.length), (7, i64 y)]) (fun y w' => y ≤ l.length ∧ Fr no w w' ∧ alikeQ (l.take y) = true) (fun y => l.length - y) 0 ⟨rfl, rfl, rfl, trivial⟩ ⟨Nat.zero_le _, Fr.refl _ _, rfl⟩ ?_
  rintro i w1 ⟨hi, hF, hq⟩
  refine sC [] rfl ?_; refine sD [] rfl ?_
  refine ev_condD rfl (fun c => ?_) (fun c => ?_)
  · have hlt : i < l.length := by omega
    have hx : l[i]? = some l[i] := List.getElem?_eq_getElem hlt
    obtain ⟨g, o, rfl, _⟩ := hA (i * 2 + 0) _ (flat_at prC_len hx (j := 0) rfl)
    have hcs : Cs w1 (some ⟨g, o + (i : Int).toNat * 2, none⟩) (prC l[i]) := by rw [Int.toNat_natCast]; exact (hA.fr0 hF).part (i * 2) fun j u hj => flat_at prC_len hx hj
    obtain ⟨h1, h2, h3⟩ := hat _ (List.getElem_mem hlt)
    obtain ⟨p, hp⟩ : ∃ p, p = l[i] := ⟨_, rfl⟩
    rw [← hp] at hcs h1 h2 h3
    refine sA [] rfl ?_
    refine ev_indexAddr rfl rfl tabOk rfl rfl rfl (by omega) (by omega) ?_
    refine ev_loadAgg rfl rfl tabOk rfl rfl rfl hcs ?_
    refine ev_alloc rfl rfl inf128 (fun q w2 hq2 k2 f2 => ?_)
    skip
    refine ev_storeAgg tabOk rfl rfl rfl rfl rfl rfl k2 rfl (fun w3 k3 f3 => ?_)
    have h13 : Fr no w1 w3 := f2.trans f3 fun z hz e => by have : z = q := e; omega
    have hF3 := hF.tr h13
    clear k2 hcs
    refine sA [] rfl ?_
    refine ev_indexAddrP rfl rfl tabOk rfl rfl rfl (by omega) (by omega) ?_
    refine ev_load rfl rfl tabOk rfl rfl (k3.cell rfl) ?_
    refine ev_indexAddrP rfl rfl tabOk rfl rfl rfl (by omega) (by omega) ?_
    refine ev_load rfl rfl tabOk rfl rfl (k3.cell rfl) ?_
    refine ev_call rfl rfl rfl (wEq8 p.1 p.2 w3 (h1.fr0 hF3) (h2.fr0 hF3) h3) ?_
    rintro r w4 ⟨rfl, f4⟩
    refine sD [] rfl ?_; refine sD [] rfl ?_
    by_cases c2 : p.1.xs = p.2.xs
    · rw [decide_eq_true c2]
      refine sA [] rfl ?_; refine ev_arith rfl rfl rfl rfl rfl (by simp only [lowK, hiK]; omega) ?_; refine sA [] rfl ?_
      refine ev_next (i + 1) (by omega) ⟨by omega, hF3.tr f4, by rw [alikeQ_take hlt, hq, ← hp]; simpa using c2⟩ ⟨rfl, rfl, by rw [show ((i + 1 : Nat) : Int) = (i : Int) + 1 by omega]; rfl, trivial⟩
    · rw [decide_eq_false c2]
      refine sA [] rfl ?_
      exact ret1 (.inr rfl) rfl rfl ⟨by rw [alikeQ_bad hlt (by rw [← hp]; exact c2)], hF3.tr f4⟩
  · obtain rfl : i = l.length := by omega
    refine sA [] rfl ?_
    exact ret1 (.inr rfl) rfl rfl ⟨by rw [List.take_length] at hq; rw [hq], hF⟩
theorem mid_part {w : World} {p : Nat} {t : TypeId} (b : Bk Rw) (h : Blk w p (bkC b) t) : Cs w (some ⟨p, 11, none⟩) [b.ga.v, b.up.v, b.dn.v, i64 b.gas, i64 b.ups, i64 b.dns] :=
  (Cs.of_blk h).part 11 fun j u hj => match j, hj with
    | 0, h => h | 1, h => h | 2, h => h | 3, h => h | 4, h => h | 5, h => h | n + 6, h => by simp at h
theorem voc_part {w : World} {p : Nat} {t : TypeId} (m : LM) (h : Blk w p (lmC m) t) : Cs w (some ⟨p, 6, none⟩) [.slice m.tA m.V.texts.length m.tc, .slice m.mA m.V.merges.length m.mc] :=
  (Cs.of_blk h).part 6 fun j u hj => match j, hj with
    | 0, h => h | 1, h => h | n + 2, h => by simp at h
set_option maxHeartbeats 16000000 in
theorem wSameM (m u : LM) (w : World) (hm : m.At w) (hu : u.At w) (hl : m.Sm) (hl2 : u.Sm) :
    CallsF Tryd.prog 32 [lmV m, lmV u] w fun z w' => z = .bool (eqB (m.p = u.p)) ∧ Fr no w w' := by
  have hbl := hl.bl
  have hbl2 := hl2.bl
  refine callsF Tryd.func32 rfl rfl (by decide) rfl ?_
  refine sA [] rfl ?_
  refine ev_box rfl rfl rfl fun p w1 hp kp f1 => ?_
  refine ev_box rfl rfl rfl fun q w2 hq kq f2 => ?_
  have kp : Blk w2 p (lmC m) 51 := kp.fr0 f2
  have kq : Blk w2 q (lmC u) 51 := kq
  have hF := f1.tr f2
  refine sA [] rfl ?_
  refine ev_loadAgg rfl rfl tabOk rfl rfl rfl (shp_part m kp) ?_
  refine sA [] rfl ?_
  refine ev_loadAgg rfl rfl tabOk rfl rfl rfl (shp_part u kq) ?_
  refine ev_y rfl rfl (y_shpA_eql (m := m.s) (m' := u.s) rfl rfl) ?_
  by_cases i_s : m.s = u.s
  rotate_left
  · rw [show decide (m.s = u.s) = false from decide_eq_false i_s]
    refine sA [] rfl ?_
    exact ret1 (.inr rfl) rfl rfl ⟨by rw [eqB_f fun h : m.p = u.p => i_s (congrArg Md.s h)], hF⟩
  rw [show decide (m.s = u.s) = true from decide_eq_true i_s]
  refine sA [] rfl ?_; refine ev_loadB rfl rfl tabOk rfl rfl ‹_› (by rfl) ?_; refine sA [] rfl ?_; refine ev_loadB rfl rfl tabOk rfl rfl ‹_› (by rfl) ?_; refine sD [] rfl ?_; refine sD [] rfl ?_; refine sD [] rfl ?_
  by_cases i_es : m.es = u.es
  rotate_left
  · rw [show decide (m.es = u.es) = false from decide_eq_false i_es]
    refine sA [] rfl ?_
    exact ret1 (.inr rfl) rfl rfl ⟨by rw [eqB_f fun h : m.p = u.p => i_es (congrArg Md.es h)], hF⟩
  rw [show decide (m.es = u.es) = true from decide_eq_true i_es]
  refine sA [] rfl ?_; refine ev_loadB rfl rfl tabOk rfl rfl ‹_› (by rfl) ?_; refine sA [] rfl ?_; refine ev_loadB rfl rfl tabOk rfl rfl ‹_› (by rfl) ?_; refine sD [] rfl ?_; refine sD [] rfl ?_; refine sD [] rfl ?_
  by_cases i_ls : m.ls = u.ls
  rotate_left
  · rw [show decide (m.ls = u.ls) = false from decide_eq_false i_ls]
    refine sA [] rfl ?_
    exact ret1 (.inr rfl) rfl rfl ⟨by rw [eqB_f fun h : m.p = u.p => i_ls (congrArg Md.ls h)], hF⟩
  rw [show decide (m.ls = u.ls) = true from decide_eq_true i_ls]
  refine sA [] rfl ?_
  refine ev_loadAgg rfl rfl tabOk rfl rfl rfl (voc_part m kp) ?_
  refine sA [] rfl ?_
  refine ev_loadAgg rfl rfl tabOk rfl rfl rfl (voc_part u kq) ?_
  refine ev_call rfl rfl rfl (wSame m.tA m.tc m.mA m.mc m.V u.tA u.tc u.mA u.mc u.V w2 (hm.voc.fr0 hF) (hu.voc.fr0 hF) hl.V hl2.V) ?_
  rintro z w3 ⟨rfl, f3⟩
  have kp := kp.fr0 f3
  have kq := kq.fr0 f3
  have hF := hF.tr f3
  by_cases i_V : m.V.same u.V
  rotate_left
  · rw [decide_eq_false i_V]
    refine sA [] rfl ?_
    exact ret1 (.inr rfl) rfl rfl ⟨by rw [eqB_f fun h : m.p = u.p => i_V (by have := congrArg Md.V h; rw [show m.V = u.V from this]; exact u.V.same_refl)], hF⟩
  rw [decide_eq_true i_V]
  refine sA [] rfl ?_; refine ev_loadB rfl rfl tabOk rfl rfl ‹_› (by rfl) ?_; refine sA [] rfl ?_; refine ev_loadB rfl rfl tabOk rfl rfl ‹_› (by rfl) ?_; refine sC [] rfl ?_; refine sC [] rfl ?_; refine sD [] rfl ?_; refine sD [] rfl ?_; refine sD [] rfl ?_
  by_cases i_n : m.bs.length = u.bs.length
  rotate_left
  · rw [show decide ((m.bs.length : Int) = u.bs.length) = false from decide_eq_false (by omega)]
    refine sA [] rfl ?_
    exact ret1 (.inr rfl) rfl rfl ⟨by rw [eqB_f fun h : m.p = u.p => i_n (by have := congrArg (fun m => m.bs.length) h; simpa [LM.p] using this)], hF⟩
  rw [show decide ((m.bs.length : Int) = u.bs.length) = true from decide_eq_true (by omega)]
  refine sA [] rfl ?_; refine ev_loadB rfl rfl tabOk rfl rfl ‹_› (by rfl) ?_; refine sA [] rfl ?_; refine ev_loadB rfl rfl tabOk rfl rfl ‹_› (by rfl) ?_
  refine ev_build rfl rfl (v := .agg ⟨[m.e.v, u.e.v]⟩) rfl (fun w => by kernel_rfl) ?_
  refine sA [] rfl ?_; refine ev_loadB rfl rfl tabOk rfl rfl ‹_› (by rfl) ?_; refine sA [] rfl ?_; refine ev_loadB rfl rfl tabOk rfl rfl ‹_› (by rfl) ?_
  refine ev_build rfl rfl (v := .agg ⟨[m.cos.v, u.cos.v]⟩) rfl (fun w => by kernel_rfl) ?_
  refine sA [] rfl ?_; refine ev_loadB rfl rfl tabOk rfl rfl ‹_› (by rfl) ?_; refine sA [] rfl ?_; refine ev_loadB rfl rfl tabOk rfl rfl ‹_› (by rfl) ?_
  refine ev_build rfl rfl (v := .agg ⟨[m.sin.v, u.sin.v]⟩) rfl (fun w => by kernel_rfl) ?_
  refine sA [] rfl ?_; refine ev_loadB rfl rfl tabOk rfl rfl ‹_› (by rfl) ?_; refine sA [] rfl ?_; refine ev_loadB rfl rfl tabOk rfl rfl ‹_› (by rfl) ?_
  refine ev_build rfl rfl (v := .agg ⟨[m.bend.v, u.bend.v]⟩) rfl (fun w => by kernel_rfl) ?_
  refine sA [] rfl ?_; refine ev_loadB rfl rfl tabOk rfl rfl ‹_› (by rfl) ?_; refine sA [] rfl ?_; refine ev_loadB rfl rfl tabOk rfl rfl ‹_› (by rfl) ?_
  refine ev_build rfl rfl (v := .agg ⟨[m.gain.v, u.gain.v]⟩) rfl (fun w => by kernel_rfl) ?_
  refine sA [] rfl ?_; refine ev_loadB rfl rfl tabOk rfl rfl ‹_› (by rfl) ?_; refine sA [] rfl ?_; refine ev_loadB rfl rfl tabOk rfl rfl ‹_› (by rfl) ?_
  refine ev_build rfl rfl (v := .agg ⟨[m.un.v, u.un.v]⟩) rfl (fun w => by kernel_rfl) ?_
  skip
  refine ev_buildSlice tabOk rfl rfl rfl inf128 rfl rfl rfl (fun v hv => by simp at hv; rcases hv with rfl | rfl | rfl | rfl | rfl | rfl <;> rfl) rfl (fun g4 w4 hg4 hb4 f4 => ?_)
  have kp := kp.fr0 f4
  have kq := kq.fr0 f4
  have hF := hF.tr f4
  refine ev_call rfl rfl rfl (wAlike _ [(m.e, u.e), (m.cos, u.cos), (m.sin, u.sin), (m.bend, u.bend), (m.gain, u.gain), (m.un, u.un)] 6 w4 (Cs.of_blk hb4) (fun p hp => by
    simp only [List.mem_cons, List.not_mem_nil, or_false] at hp
    rcases hp with rfl | rfl | rfl | rfl | rfl | rfl <;> exact ⟨(hm.rows _ (by simp)).fr0 hF, (hu.rows _ (by simp)).fr0 hF, hl.rows _ (by simp)⟩) (by simp)) ?_
  rintro z w5 ⟨rfl, f5⟩
  have kp := kp.fr0 f5
  have kq := kq.fr0 f5
  have hF := hF.tr f5
  clear hb4
  by_cases r_a : alikeQ [(m.e, u.e), (m.cos, u.cos), (m.sin, u.sin), (m.bend, u.bend), (m.gain, u.gain), (m.un, u.un)] = true
  rotate_left
  · rw [show alikeQ [(m.e, u.e), (m.cos, u.cos), (m.sin, u.sin), (m.bend, u.bend), (m.gain, u.gain), (m.un, u.un)] = false by simpa using r_a]
    refine sA [] rfl ?_
    exact ret1 (.inr rfl) rfl rfl ⟨by
      rw [eqB_f fun h : m.p = u.p => r_a ?_]
      have e : ∀ f : Md → List Int8, f m.p = f u.p := fun f => by rw [h]
      simp only [alikeQ, List.all_cons, List.all_nil, Bool.and_true, Bool.and_eq_true, decide_eq_true_eq]
      exact ⟨e Md.e, e Md.cos, e Md.sin, e Md.bend, e Md.gain, e Md.un⟩, hF⟩
  rw [r_a]
  simp only [alikeQ, List.all_cons, List.all_nil, Bool.and_true, Bool.and_eq_true, decide_eq_true_eq] at r_a
  obtain ⟨r_e, r_cos, r_sin, r_bend, r_gain, r_un⟩ := r_a
  refine sA [] rfl ?_; refine ev_loadB rfl rfl tabOk rfl rfl ‹_› (by rfl) ?_; refine sA [] rfl ?_
  refine ev_loop (α := Nat) (fun y => [(2, .pointer (some ⟨p, 0, none⟩)), (3, .pointer (some ⟨q, 0, none⟩)), (85, .slice m.bA m.bs.length m.bc), (86, i64 m.bs.length), (87, i64 y)]) (fun y w' => y ≤ m.bs.length ∧ Fr no w w' ∧ Blk w' p (lmC m) 51 ∧ Blk w' q (lmC u) 51 ∧ ∀ i (h : i < m.bs.length), i < y → pBk m.bs[i] = pBk (u.bs[i]'(by omega))) (fun y => m.bs.length - y) 0 ⟨rfl, rfl, rfl, rfl, rfl, trivial⟩ ⟨Nat.zero_le _, hF, kp, kq, fun i _ h => absurd h (Nat.not_lt_zero _)⟩ ?_
  clear hF kp kq
  rintro y w6 ⟨hy, hF, kp, kq, hz⟩
  refine sC [] rfl ?_; refine sD [] rfl ?_
  refine ev_condD rfl (fun c2 => ?_) (fun c2 => ?_)
  · have h1 : y < m.bs.length := by omega
    have h2 : y < u.bs.length := by omega
    obtain ⟨g, o, hA, hblk⟩ := blk_at (hm.blk.fr0 hF) h1
    obtain ⟨g2, o2, hA2, hblk2⟩ := blk_at (hu.blk.fr0 hF) h2
    have hx0 := hm.bs _ (List.getElem_mem h1)
    have hy0 := hu.bs _ (List.getElem_mem h2)
    have hxl := hl.bs _ (List.getElem_mem h1)
    have hbad : ¬ pBk m.bs[y] = pBk u.bs[y] → ¬ m.p = u.p := fun c h => c (by
      have h := congrArg Md.bs h
      have h : m.bs.map pBk = u.bs.map pBk := h
      have := congrArg (fun l => l[y]?) h
      simpa [List.getElem?_map, List.getElem?_eq_getElem h1, List.getElem?_eq_getElem h2] using this)
    have hgood : pBk m.bs[y] = pBk u.bs[y] → ∀ i (h : i < m.bs.length), i < y + 1 → pBk m.bs[i] = pBk (u.bs[i]'(by omega)) := fun c i h hi => by
      by_cases e : i = y
      · subst e; exact c
      · exact hz i h (by omega)
    obtain ⟨a, ha⟩ : ∃ a, a = m.bs[y] := ⟨_, rfl⟩
    obtain ⟨b, hb⟩ : ∃ b, b = u.bs[y] := ⟨_, rfl⟩
    rw [← ha, ← hb] at hbad hgood
    rw [← ha] at hblk hx0 hxl
    rw [← hb] at hblk2 hy0
    have hx0 : a.At w := hx0
    have hy0 : b.At w := hy0
    have hxl : a.Sm := hxl
    refine sA [] rfl ?_
    refine ev_indexAddr rfl rfl tabOk (congrArg (fun z => some (Value.slice z m.bs.length m.bc)) hA) rfl rfl (by omega) (by omega) ?_
    refine ev_loadAgg rfl rfl tabOk rfl rfl rfl hblk ?_
    refine ev_alloc rfl rfl inf60 (fun p7 wa hp7 k7 fa => ?_)
    refine sA [] rfl ?_
    refine ev_storeAgg tabOk rfl rfl rfl rfl rfl rfl k7 rfl (fun wb k7 fb => ?_)
    have h6b : Fr no w6 wb := fa.trans fb fun z hz e => by have : z = p7 := e; omega
    have kp := kp.fr0 h6b
    have kq := kq.fr0 h6b
    have hF := hF.tr h6b
    have hblk2 := hblk2.fr0 h6b
    clear hblk
    refine sA [] rfl ?_; refine ev_loadB rfl rfl tabOk rfl rfl ‹_› (by rfl) ?_; refine sA [] rfl ?_
    refine ev_indexAddr rfl rfl tabOk (congrArg (fun z => some (Value.slice z u.bs.length u.bc)) hA2) rfl rfl (by omega) (by omega) ?_
    refine ev_loadAgg rfl rfl tabOk rfl rfl rfl hblk2 ?_
    refine ev_alloc rfl rfl inf60 (fun p8 wc hp8 k8 fc => ?_)
    skip
    refine ev_storeAgg tabOk rfl rfl rfl rfl rfl rfl k8 rfl (fun wd k8 fd => ?_)
    have hbd : Fr no wb wd := fc.trans fd fun z hz e => by have : z = p8 := e; omega
    have kp := kp.fr0 hbd
    have kq := kq.fr0 hbd
    have hF := hF.tr hbd
    have k7 := k7.fr0 hbd
    clear hblk2
    have k7 : Blk wd p7 (bkC a) 60 := k7
    have k8 : Blk wd p8 (bkC b) 60 := k8
    refine sA [] rfl ?_
    refine ev_join1 (α := Nat × Nat) (fun z => [(2, .pointer (some ⟨p, 0, none⟩)), (3, .pointer (some ⟨q, 0, none⟩)), (85, .slice m.bA m.bs.length m.bc), (86, i64 m.bs.length), (87, i64 y), (7, .pointer (some ⟨p7, 0, none⟩)), (8, .pointer (some ⟨p8, 0, none⟩)), (9, .pointer (some ⟨z.1, 0, none⟩)), (10, .pointer (some ⟨z.2, 0, none⟩))])
      (fun z w' => Fr no wd w' ∧ Blk w' z.1 [a.ga.v, a.up.v, a.dn.v, i64 a.gas, i64 a.ups, i64 a.dns] 58 ∧ Blk w' z.2 [b.ga.v, b.up.v, b.dn.v, i64 b.gas, i64 b.ups, i64 b.dns] 58) ?_ ?_
    · refine mixC_in (fun w' => Fr no wd w') mixed (fun v0 g0 => ?_)
      refine mA rfl (by kernel_rfl) (by kernel_rfl) ?_
      refine m_loadAgg 1 rfl rfl rfl (by kernel_rfl) (by kernel_rfl) rfl rfl tabOk rfl rfl rfl (fun w' h => mid_part a (k7.fr0 h)) ?_
      refine m_loadAgg 3 rfl rfl rfl (by kernel_rfl) (by kernel_rfl) rfl rfl tabOk rfl rfl rfl (fun w' h => mid_part b (k8.fr0 h)) ?_
      refine mix2 rfl rfl rfl ?_ ?_ g0
      · refine ev_alloc rfl rfl inf58 (fun p9 v1 hp9 k9 d1 => ?_)
        refine mix_op ?_
        refine mix1 rfl rfl ?_ (g0.tr d1)
        refine ev_alloc rfl rfl inf58 (fun p10 v2 hp10 k10 d2 => ?_)
        refine mix_op ?_
        have k9l := k9.lt
        refine mix1 rfl rfl ?_ ((g0.tr d1).tr d2)
        refine ev_storeAgg tabOk rfl rfl rfl rfl rfl rfl (k9.fr0 d2) rfl (fun v3 k93 d3 => ?_)
        have g3 : Fr no wd v3 := ((g0.tr d1).tr d2).trans d3 fun z hz e => by have : z = p9 := e; have := g0.size; omega
        refine mix_op ?_
        refine mix1 rfl rfl ?_ g3
        refine ev_storeAgg tabOk rfl rfl rfl rfl rfl rfl (k10.fr d3 (fun e => by have : p10 = p9 := e; omega)) rfl (fun v4 k104 d4 => ?_)
        have g4 : Fr no wd v4 := g3.trans d4 fun z hz e => by have : z = p10 := e; have := (g0.tr d1).size; omega
        refine mix_op ?_
        refine mix_out rfl ?_ g4
        skip
        exact ev_out (p9, p10) ⟨g4, k93.fr d4 (fun e => by have : p9 = p10 := e; omega), k104⟩ ⟨rfl, rfl, rfl, rfl, rfl, rfl, rfl, rfl, rfl, trivial⟩
      · refine ev_alloc rfl rfl inf58 (fun p10 v1 hp10 k10 d1 => ?_)
        refine mix_op ?_
        refine mix1 rfl rfl ?_ (g0.tr d1)
        refine ev_alloc rfl rfl inf58 (fun p9 v2 hp9 k9 d2 => ?_)
        refine mix_op ?_
        have k10l := k10.lt
        refine mix1 rfl rfl ?_ ((g0.tr d1).tr d2)
        refine ev_storeAgg tabOk rfl rfl rfl rfl rfl rfl k9 rfl (fun v3 k93 d3 => ?_)
        have g3 : Fr no wd v3 := ((g0.tr d1).tr d2).trans d3 fun z hz e => by have : z = p9 := e; have := (g0.tr d1).size; omega
        refine mix_op ?_
        refine mix1 rfl rfl ?_ g3
        refine ev_storeAgg tabOk rfl rfl rfl rfl rfl rfl ((k10.fr0 d2).fr d3 (fun e => by have : p10 = p9 := e; omega)) rfl (fun v4 k104 d4 => ?_)
        have g4 : Fr no wd v4 := g3.trans d4 fun z hz e => by have : z = p10 := e; have := g0.size; omega
        refine mix_op ?_
        refine mix_out rfl ?_ g4
        skip
        exact ev_out (p9, p10) ⟨g4, k93.fr d4 (fun e => by have : p9 = p10 := e; omega), k104⟩ ⟨rfl, rfl, rfl, rfl, rfl, rfl, rfl, rfl, rfl, trivial⟩
    rintro ⟨p9, p10⟩ we ⟨hde, k9, k10⟩
    dsimp only at k9 k10
    have kp := kp.fr0 hde
    have kq := kq.fr0 hde
    have hF := hF.tr hde
    have k7 := k7.fr0 hde
    have k8 := k8.fr0 hde
    refine sA [] rfl ?_; refine ev_loadB rfl rfl tabOk rfl rfl ‹_› (by rfl) ?_; refine sA [] rfl ?_; refine ev_loadB rfl rfl tabOk rfl rfl ‹_› (by rfl) ?_; refine sD [] rfl ?_; refine sD [] rfl ?_
    by_cases j_qs : a.qs = b.qs
    rotate_left
    · rw [show decide (a.qs = b.qs) = false from decide_eq_false j_qs]
      refine sA [] rfl ?_
      exact ret1 (.inr rfl) rfl rfl ⟨by rw [eqB_f (hbad fun h => j_qs (congrArg (Bk.qs (ρ := List Int8)) h))], hF⟩
    rw [show decide (a.qs = b.qs) = true from decide_eq_true j_qs]
    refine sA [] rfl ?_; refine ev_loadB rfl rfl tabOk rfl rfl ‹_› (by rfl) ?_; refine sA [] rfl ?_; refine ev_loadB rfl rfl tabOk rfl rfl ‹_› (by rfl) ?_; refine sD [] rfl ?_; refine sD [] rfl ?_; refine sD [] rfl ?_
    by_cases j_ks : a.ks = b.ks
    rotate_left
    · rw [show decide (a.ks = b.ks) = false from decide_eq_false j_ks]
      refine sA [] rfl ?_
      exact ret1 (.inr rfl) rfl rfl ⟨by rw [eqB_f (hbad fun h => j_ks (congrArg (Bk.ks (ρ := List Int8)) h))], hF⟩
    rw [show decide (a.ks = b.ks) = true from decide_eq_true j_ks]
    refine sA [] rfl ?_; refine ev_loadB rfl rfl tabOk rfl rfl ‹_› (by rfl) ?_; refine sA [] rfl ?_; refine ev_loadB rfl rfl tabOk rfl rfl ‹_› (by rfl) ?_; refine sD [] rfl ?_; refine sD [] rfl ?_; refine sD [] rfl ?_
    by_cases j_vs : a.vs = b.vs
    rotate_left
    · rw [show decide (a.vs = b.vs) = false from decide_eq_false j_vs]
      refine sA [] rfl ?_
      exact ret1 (.inr rfl) rfl rfl ⟨by rw [eqB_f (hbad fun h => j_vs (congrArg (Bk.vs (ρ := List Int8)) h))], hF⟩
    rw [show decide (a.vs = b.vs) = true from decide_eq_true j_vs]
    refine sA [] rfl ?_; refine ev_loadB rfl rfl tabOk rfl rfl ‹_› (by rfl) ?_; refine sA [] rfl ?_; refine ev_loadB rfl rfl tabOk rfl rfl ‹_› (by rfl) ?_; refine sD [] rfl ?_; refine sD [] rfl ?_; refine sD [] rfl ?_
    by_cases j_os : a.os = b.os
    rotate_left
    · rw [show decide (a.os = b.os) = false from decide_eq_false j_os]
      refine sA [] rfl ?_
      exact ret1 (.inr rfl) rfl rfl ⟨by rw [eqB_f (hbad fun h => j_os (congrArg (Bk.os (ρ := List Int8)) h))], hF⟩
    rw [show decide (a.os = b.os) = true from decide_eq_true j_os]
    refine sA [] rfl ?_; refine ev_loadB rfl rfl tabOk rfl rfl ‹_› (by rfl) ?_; refine sA [] rfl ?_; refine ev_loadB rfl rfl tabOk rfl rfl ‹_› (by rfl) ?_; refine sD [] rfl ?_; refine sD [] rfl ?_; refine sD [] rfl ?_
    by_cases j_ss : a.ss = b.ss
    rotate_left
    · rw [show decide (a.ss = b.ss) = false from decide_eq_false j_ss]
      refine sA [] rfl ?_
      exact ret1 (.inr rfl) rfl rfl ⟨by rw [eqB_f (hbad fun h => j_ss (congrArg (Bk.ss (ρ := List Int8)) h))], hF⟩
    rw [show decide (a.ss = b.ss) = true from decide_eq_true j_ss]
    refine sA [] rfl ?_; refine ev_loadB rfl rfl tabOk rfl rfl ‹_› (by rfl) ?_; refine sA [] rfl ?_; refine ev_loadB rfl rfl tabOk rfl rfl ‹_› (by rfl) ?_; refine sD [] rfl ?_; refine sD [] rfl ?_; refine sD [] rfl ?_
    by_cases j_gas : a.gas = b.gas
    rotate_left
    · rw [show decide (a.gas = b.gas) = false from decide_eq_false j_gas]
      refine sA [] rfl ?_
      exact ret1 (.inr rfl) rfl rfl ⟨by rw [eqB_f (hbad fun h => j_gas (congrArg (Bk.gas (ρ := List Int8)) h))], hF⟩
    rw [show decide (a.gas = b.gas) = true from decide_eq_true j_gas]
    refine sA [] rfl ?_; refine ev_loadB rfl rfl tabOk rfl rfl ‹_› (by rfl) ?_; refine sA [] rfl ?_; refine ev_loadB rfl rfl tabOk rfl rfl ‹_› (by rfl) ?_; refine sD [] rfl ?_; refine sD [] rfl ?_; refine sD [] rfl ?_
    by_cases j_ups : a.ups = b.ups
    rotate_left
    · rw [show decide (a.ups = b.ups) = false from decide_eq_false j_ups]
      refine sA [] rfl ?_
      exact ret1 (.inr rfl) rfl rfl ⟨by rw [eqB_f (hbad fun h => j_ups (congrArg (Bk.ups (ρ := List Int8)) h))], hF⟩
    rw [show decide (a.ups = b.ups) = true from decide_eq_true j_ups]
    refine sA [] rfl ?_; refine ev_loadB rfl rfl tabOk rfl rfl ‹_› (by rfl) ?_; refine sA [] rfl ?_; refine ev_loadB rfl rfl tabOk rfl rfl ‹_› (by rfl) ?_; refine sC [] rfl ?_; refine sC [] rfl ?_; refine sD [] rfl ?_
    by_cases j_dns : a.dns = b.dns
    rotate_left
    · rw [show decide (a.dns = b.dns) = false from decide_eq_false j_dns]
      refine sA [] rfl ?_
      exact ret1 (.inr rfl) rfl rfl ⟨by rw [eqB_f (hbad fun h => j_dns (congrArg (Bk.dns (ρ := List Int8)) h))], hF⟩
    rw [show decide (a.dns = b.dns) = true from decide_eq_true j_dns]
    refine sA [] rfl ?_; refine ev_loadB rfl rfl tabOk rfl rfl ‹_› (by rfl) ?_; refine sA [] rfl ?_; refine ev_loadB rfl rfl tabOk rfl rfl ‹_› (by rfl) ?_
    refine ev_build rfl rfl (v := .agg ⟨[a.g1.v, b.g1.v]⟩) rfl (fun w => by kernel_rfl) ?_
    refine sA [] rfl ?_; refine ev_loadB rfl rfl tabOk rfl rfl ‹_› (by rfl) ?_; refine sA [] rfl ?_; refine ev_loadB rfl rfl tabOk rfl rfl ‹_› (by rfl) ?_
    refine ev_build rfl rfl (v := .agg ⟨[a.q.v, b.q.v]⟩) rfl (fun w => by kernel_rfl) ?_
    refine sA [] rfl ?_; refine ev_loadB rfl rfl tabOk rfl rfl ‹_› (by rfl) ?_; refine sA [] rfl ?_; refine ev_loadB rfl rfl tabOk rfl rfl ‹_› (by rfl) ?_
    refine ev_build rfl rfl (v := .agg ⟨[a.k.v, b.k.v]⟩) rfl (fun w => by kernel_rfl) ?_
    refine sA [] rfl ?_; refine ev_loadB rfl rfl tabOk rfl rfl ‹_› (by rfl) ?_; refine sA [] rfl ?_; refine ev_loadB rfl rfl tabOk rfl rfl ‹_› (by rfl) ?_
    refine ev_build rfl rfl (v := .agg ⟨[a.v.v, b.v.v]⟩) rfl (fun w => by kernel_rfl) ?_
    refine sA [] rfl ?_; refine ev_loadB rfl rfl tabOk rfl rfl ‹_› (by rfl) ?_; refine sA [] rfl ?_; refine ev_loadB rfl rfl tabOk rfl rfl ‹_› (by rfl) ?_
    refine ev_build rfl rfl (v := .agg ⟨[a.o.v, b.o.v]⟩) rfl (fun w => by kernel_rfl) ?_
    refine sA [] rfl ?_; refine ev_loadB rfl rfl tabOk rfl rfl ‹_› (by rfl) ?_; refine sA [] rfl ?_; refine ev_loadB rfl rfl tabOk rfl rfl ‹_› (by rfl) ?_
    refine ev_build rfl rfl (v := .agg ⟨[a.g2.v, b.g2.v]⟩) rfl (fun w => by kernel_rfl) ?_
    refine sA [] rfl ?_; refine ev_loadB rfl rfl tabOk rfl rfl ‹_› (by rfl) ?_; refine sA [] rfl ?_; refine ev_loadB rfl rfl tabOk rfl rfl ‹_› (by rfl) ?_
    refine ev_build rfl rfl (v := .agg ⟨[a.ga.v, b.ga.v]⟩) rfl (fun w => by kernel_rfl) ?_
    refine sA [] rfl ?_; refine ev_loadB rfl rfl tabOk rfl rfl ‹_› (by rfl) ?_; refine sA [] rfl ?_; refine ev_loadB rfl rfl tabOk rfl rfl ‹_› (by rfl) ?_
    refine ev_build rfl rfl (v := .agg ⟨[a.up.v, b.up.v]⟩) rfl (fun w => by kernel_rfl) ?_
    refine sA [] rfl ?_; refine ev_loadB rfl rfl tabOk rfl rfl ‹_› (by rfl) ?_; refine sA [] rfl ?_; refine ev_loadB rfl rfl tabOk rfl rfl ‹_› (by rfl) ?_
    refine ev_build rfl rfl (v := .agg ⟨[a.dn.v, b.dn.v]⟩) rfl (fun w => by kernel_rfl) ?_
    skip
    refine ev_buildSlice tabOk rfl rfl rfl inf128 rfl rfl rfl (fun v hv => by simp at hv; rcases hv with rfl | rfl | rfl | rfl | rfl | rfl | rfl | rfl | rfl <;> rfl) rfl (fun g5 wf hg5 hb5 ff => ?_)
    have kp := kp.fr0 ff
    have kq := kq.fr0 ff
    have hF := hF.tr ff
    refine ev_call rfl rfl rfl (wAlike _ [(a.g1, b.g1), (a.q, b.q), (a.k, b.k), (a.v, b.v), (a.o, b.o), (a.g2, b.g2), (a.ga, b.ga), (a.up, b.up), (a.dn, b.dn)] 9 wf (Cs.of_blk hb5) (fun p hp => by
      simp only [List.mem_cons, List.not_mem_nil, or_false] at hp
      rcases hp with rfl | rfl | rfl | rfl | rfl | rfl | rfl | rfl | rfl <;> exact ⟨Cs.fr0 (hx0 _ (by simp)) hF, Cs.fr0 (hy0 _ (by simp)) hF, hxl _ (by simp)⟩) (by simp)) ?_
    rintro z wg ⟨rfl, fg⟩
    have kp := kp.fr0 fg
    have kq := kq.fr0 fg
    have hF := hF.tr fg
    clear hb5 k7 k8 k9 k10
    by_cases r_b : alikeQ [(a.g1, b.g1), (a.q, b.q), (a.k, b.k), (a.v, b.v), (a.o, b.o), (a.g2, b.g2), (a.ga, b.ga), (a.up, b.up), (a.dn, b.dn)] = true
    rotate_left
    · rw [show alikeQ [(a.g1, b.g1), (a.q, b.q), (a.k, b.k), (a.v, b.v), (a.o, b.o), (a.g2, b.g2), (a.ga, b.ga), (a.up, b.up), (a.dn, b.dn)] = false by simpa using r_b]
      refine sA [] rfl ?_
      exact ret1 (.inr rfl) rfl rfl ⟨by
        rw [eqB_f (hbad fun h => r_b ?_)]
        have e : ∀ f : Bk (List Int8) → List Int8, f (pBk a) = f (pBk b) := fun f => by rw [h]
        simp only [alikeQ, List.all_cons, List.all_nil, Bool.and_true, Bool.and_eq_true, decide_eq_true_eq]
        exact ⟨e Bk.g1, e Bk.q, e Bk.k, e Bk.v, e Bk.o, e Bk.g2, e Bk.ga, e Bk.up, e Bk.dn⟩, hF⟩
    rw [r_b]
    simp only [alikeQ, List.all_cons, List.all_nil, Bool.and_true, Bool.and_eq_true, decide_eq_true_eq] at r_b
    obtain ⟨s1, s2, s3, s4, s5, s6, s7, s8, s9⟩ := r_b
    have hab : pBk a = pBk b := by
      simp only [Bk.map, s1, s2, s3, s4, s5, s6, s7, s8, s9, j_qs, j_ks, j_vs, j_os, j_ss, j_gas, j_ups, j_dns]
    refine sA [] rfl ?_; refine ev_arith rfl rfl rfl rfl rfl (by simp only [lowK, hiK]; omega) ?_; refine sA [] rfl ?_
    refine ev_next (y + 1) (by omega) ⟨by omega, hF, kp, kq, hgood hab⟩ ⟨rfl, rfl, rfl, rfl, by rw [show ((y + 1 : Nat) : Int) = (y : Int) + 1 by omega]; rfl, trivial⟩
  obtain rfl : y = m.bs.length := by omega
  have i_bs : m.bs.map pBk = u.bs.map pBk := List.ext_getElem (by simp [i_n]) fun i h h' => by
    have h : i < m.bs.length := by simpa using h
    rw [List.getElem_map, List.getElem_map]; exact hz i h h
  refine sA [] rfl ?_
  exact ret1 (.inr rfl) rfl rfl ⟨by
    rw [eqB_t]
    have hV : m.V = u.V := by
      obtain ⟨h1, h2⟩ := i_V
      cases hv : m.V; cases hw : u.V
      rw [hv, hw] at h1 h2
      cases h1; cases h2; rfl
    simp only [LM.p, i_s, hV, r_e, i_es, r_cos, r_sin, i_bs, r_bend, r_gain, r_un, i_ls], hF⟩
end Go.Wk.YtfgllkflnkolhaaDoor
