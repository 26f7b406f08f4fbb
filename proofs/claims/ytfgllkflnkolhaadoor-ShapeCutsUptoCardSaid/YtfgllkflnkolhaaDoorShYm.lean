/-
  Chapter 16: the law ShapeSamples.
-/
import Derived.Test.YtfgllkflnkolhaaDoorShYl
set_option linter.unusedVariables false
namespace Go.Wk.YtfgllkflnkolhaaDoor
open Go Go.Wk Go.Proofs

/-- what Sample makes, of whatever shape -/
def smpQ (s : Shp) (seed : Int) : Md := if okS s then sampleP s seed else zM.p
theorem zB_own (w0 w : World) : OR w0 w zB := ⟨Own.nil _ _ _, fun g hg => by cases hg⟩
theorem zM_own {TM TB : TypeId} {w w' : World} (hf : Fr no w w') : OwnM TM TB w w' zM :=
  have ha : ∀ r ∈ zM.all, r = zB := fun r hr => by
    have hr : r ∈ [zB, zB, zB, zB, zB, zB] := hr
    simpa using hr
  ⟨fun r hr => by rw [ha r hr]; exact zB_own _ _, List.Pairwise.imp_of_mem (R := fun _ _ => True) (fun hr _ _ g hg => by rw [ha _ hr] at hg; cases hg) (List.pairwise_of_forall (fun _ _ => trivial)), Own.nil _ _ _, Own.nil _ _ _, Own.nil _ _ _,
   (fun g hg => by rcases hg with z | z | z <;> cases z), (fun g hg => by cases hg), (fun g hg => by cases hg), hf⟩
theorem zM_Sm : zM.Sm := ⟨fun r hr => by
    have hr : r ∈ [zB, zB, zB, zB, zB, zB] := hr
    have : r = zB := by simpa using hr
    rw [this]; exact Nat.zero_le _, (fun b hb => by cases hb), Nat.zero_le _, ⟨Nat.zero_le _, (fun t ht => by cases ht), Nat.zero_le _⟩⟩
theorem wSampleA (s : Shp) (seed : Int) (w : World) (hseed : -9223372036854775808 ≤ seed ∧ seed ≤ 9223372036854775807) (hT : QT w) :
    CallsF Tryd.prog 20 [shpV s, i64 seed] w fun r w' => ∃ m, r = .tuple #[lmV m, i64 (chkS s)] ∧ m.p = smpQ s seed ∧ OwnS w w' m := by
  by_cases o : okS s
  · rw [chk_y o, show smpQ s seed = sampleP s seed from if_pos o]
    exact wSample s seed w o hseed hT
  · rw [chk_n o, show smpQ s seed = zM.p from if_neg o]
    exact (wSampleNo s seed w o).mono fun v w' ⟨h1, h2⟩ => ⟨zM, h1, rfl, zM_own h2⟩
theorem refSampleA (s : Shp) (seed : Int) (w : World) (hseed : -9223372036854775808 ≤ seed ∧ seed ≤ 9223372036854775807) :
    CallsF Tryd.prog 19 [shpV s, i64 seed] w fun r w' => ∃ m : LM, r = .tuple #[lmV m, i64 (chkS s)] ∧ m.p = smpQ s seed ∧ m.At w' ∧ Fr no w w' := by
  by_cases o : okS s
  · rw [chk_y o, show smpQ s seed = sampleP s seed from if_pos o]
    exact refSample s seed w o hseed
  · rw [chk_n o, show smpQ s seed = zM.p from if_neg o]
    exact (refSampleNo s seed w o).mono fun v w' ⟨h1, h2⟩ => ⟨zM, h1, rfl, (zM_own (TM := 123) (TB := 109) h2).At, h2⟩
theorem smp_Sm {m : LM} {s : Shp} {seed : Int} (h : m.p = smpQ s seed) : m.Sm := by
  by_cases o : okS s
  · rw [show smpQ s seed = sampleP s seed from if_pos o] at h
    exact Sm_sample h o
  · rw [show smpQ s seed = zM.p from if_neg o] at h
    exact Sm_p h zM_Sm
/-- a block's gains -/
theorem smp_gain {m : LM} {s : Shp} {seed : Int} (h : m.p = smpQ s seed) : ∀ b ∈ m.bs, b.g2.xs = gainF b.g1.xs.length := fun b hb => by
  have hp : pBk b ∈ (smpQ s seed).bs := by rw [← h]; exact List.mem_map_of_mem hb
  by_cases o : okS s
  · rw [show smpQ s seed = sampleP s seed from if_pos o] at hp
    obtain ⟨st, e⟩ := layF_mem hp
    have e1 : b.g1.xs = gainF s.dim.toNat := by have := congrArg Bk.g1 e; exact this
    have e2 : b.g2.xs = gainF s.dim.toNat := by have := congrArg Bk.g2 e; exact this
    rw [e2, e1, gain_len]
  · rw [show smpQ s seed = zM.p from if_neg o] at hp
    cases hp
/-- a model that is written into -/
structure WS (wb w' : World) (m : LM) (p : Nat) : Prop where
  fr : Fr no wb w'
  k : Blk w' p (lmC m) 51
  own : ∀ r ∈ m.all, ∃ cs, Own w' 56 1 r.v r.xs.length cs
  g2 : ∀ b ∈ m.bs, b.g2.At w'
  bl : Cs w' m.bA (m.bs.flatMap bkC)
theorem pair_all {α : Type} {R : α → α → Prop} (hs : ∀ a b, R a b → R b a) : ∀ {l : List α}, l.Pairwise R → (∀ x ∈ l, R x x) → ∀ x ∈ l, ∀ y ∈ l, R x y
  | [], _, _, x, hx, _, _ => by cases hx
  | a :: l, h, hr, x, hx, y, hy => by
    have h' := List.pairwise_cons.1 h
    rcases List.mem_cons.1 hx with e1 | h1
    · rcases List.mem_cons.1 hy with e2 | h2
      · rw [e1, e2]; exact hr _ (by simp)
      · rw [e1]; exact h'.1 y h2
    · rcases List.mem_cons.1 hy with e2 | h2
      · rw [e2]; exact hs _ _ (h'.1 x h1)
      · exact pair_all hs h'.2 (fun z hz => hr z (List.mem_cons_of_mem _ hz)) x h1 y h2
theorem ap_eq {L : List Rw} (h : L.Pairwise apR) {r r' : Rw} (hr : r ∈ L) (hr' : r' ∈ L) {g : Nat} (h1 : r.v.ownBlock = some g) (h2 : r'.v.ownBlock = some g) : r = r' := by
  have key := pair_all (R := fun a b : Rw => a = b ∨ apR a b) (fun a b h => h.elim (fun e => .inl e.symm) (fun e => .inr (apR_symm e))) (h.imp fun z => .inr z) (fun x _ => .inl rfl) r hr r' hr'
  rcases key with e | e
  · exact e
  · exact absurd h2 (e g h1)
/-- what a store into a row must keep off -/
structure Bare (m : LM) (p g : Nat) : Prop where
  p : p ≠ g
  b : (Value.slice m.bA m.bs.length m.bc).ownBlock ≠ some g
  g2 : ∀ b ∈ m.bs, b.g2.v.ownBlock ≠ some g
theorem WS.store {wb w' w2 : World} {m : LM} {p g : Nat} {r : Rw} {cs : List Value} (h : WS wb w' m p) {w0 w1 : World} (ho : OwnS w0 w1 m) (hbk : Own w1 60 17 (.slice m.bA m.bs.length m.bc) m.bs.length (m.bs.flatMap bkC)) (hr : r ∈ m.all) (hg : r.v.ownBlock = some g) (hn : Bare m p g) (hw : wb.heap.size ≤ g)
    (hf : Fr (fun c => c = g) w' w2) (hO : Own w2 56 1 r.v r.xs.length cs) : WS wb w2 m p :=
  ⟨h.fr.trans hf fun z hz e => by have : z = g := e; omega, h.k.fr hf (fun e => hn.p e), fun r' hr' => by
    by_cases e : r'.v.ownBlock = some g
    · have : r' = r := ap_eq ho.ap hr' hr e hg
      rw [this]; exact ⟨cs, hO⟩
    · obtain ⟨c, hc⟩ := h.own r' hr'
      exact ⟨c, hc.fr hf (fun z hz y => e (by have : z = g := y; rw [← this]; exact hz))⟩,
   fun b hb => CsOff.keep (p := g) (CsOff.own (ho.rows _ (mem_all2 hb (show b.g2 ∈ b.rows by simp))).1 fun z hz e => hn.g2 b hb (by rw [← e]; exact hz)) (h.g2 b hb) hf,
   CsOff.keep (p := g) (CsOff.own hbk fun z hz e => hn.b (by rw [← e]; exact hz)) h.bl hf⟩
theorem bare_of {m : LM} {w0 w1 : World} (ho : OwnS w0 w1 m) {p g : Nat} (hp : w1.heap.size ≤ p) {r : Rw} (hr : r ∈ [m.gain, m.cos, m.sin, m.bend, m.e]) (hg : r.v.ownBlock = some g) : Bare m p g := by
  have hra : r ∈ m.all := List.mem_append.2 (.inl (List.mem_append.2 (.inl hr)))
  have hgl := (ho.rows r hra).lt hg
  refine ⟨by omega, fun e => (ho.ge g (.inr (.inr e))).2 r hra hg, fun b hb e => ?_⟩
  have h1 := (List.pairwise_append.1 (List.pairwise_append.1 ho.ap).1).2.2 r hr b.g2 (List.mem_flatMap.2 ⟨b, hb, by simp⟩)
  exact h1 g hg e
theorem bare_g1 {m : LM} {w0 w1 : World} (ho : OwnS w0 w1 m) {p g : Nat} (hp : w1.heap.size ≤ p) {b : Bk Rw} (hb : b ∈ m.bs) (hg : b.g1.v.ownBlock = some g) : Bare m p g := by
  have hra : b.g1 ∈ m.all := mem_all2 hb (by simp)
  have hgl := (ho.rows _ hra).lt hg
  refine ⟨by omega, fun e => (ho.ge g (.inr (.inr e))).2 _ hra hg, fun b' hb' e => ?_⟩
  have h2 := (List.pairwise_append.1 (List.pairwise_append.1 ho.ap).1).2.1
  rw [List.pairwise_flatMap] at h2
  have key := pair_all (R := fun a b : Bk Rw => apR a.g1 b.g2 ∧ apR b.g1 a.g2) (fun a b h => ⟨h.2, h.1⟩) (h2.2.imp fun {a b} z => ⟨z a.g1 (by simp) b.g2 (by simp), apR_symm (z a.g2 (by simp) b.g1 (by simp))⟩) (fun x hx => by
    have : apR x.g1 x.g2 := (List.pairwise_cons.1 (h2.1 x hx)).1 x.g2 (by simp)
    exact ⟨this, this⟩) b hb b' hb'
  exact key.1 g hg e
theorem OwnM.ge_all {TM TB : TypeId} {w0 w : World} {m : LM} (h : OwnM TM TB w0 w m) {r : Rw} (hr : r ∈ m.all) {g : Nat} (hg : r.v.ownBlock = some g) : w0.heap.size ≤ g := (h.rows r hr).2 g hg
/-- the row's own block -/
theorem own_at {w : World} {e n c i : Nat} {A : Option Addr} {cs : List Value} (h : Own w e 1 (.slice A n c) n cs) (hi : i < n) : ∃ g, A = some ⟨g, 0, none⟩ ∧ (Value.slice A n c).ownBlock = some g := by
  rcases h.2 with ⟨e2, h0⟩ | ⟨g, cap, cur, e2, _⟩
  · omega
  · injection e2 with e3
    exact ⟨g, e3, by rw [e3]; rfl⟩
set_option maxHeartbeats 16000000 in
theorem lawSamples (s : Shp) (seed : Int) (w : World) (hT : QT w) (hseed : -9223372036854775808 ≤ seed ∧ seed ≤ 9223372036854775807) :
    CallsF Tryd.prog 4 [shpV s, i64 seed] w fun r w' => r = .bool true ∧ Fr no w w' := by
  refine callsF Tryd.func4 rfl rfl (by decide) rfl ?_
  refine sA [] rfl ?_
  refine ev_box rfl rfl rfl fun p2 w1 hp k2 f1 => ?_
  have k2 : Blk w1 p2 (shpC s) 23 := k2
  refine sA [] rfl ?_
  refine ev_call rfl rfl rfl (lAwake w1 (hT.fr0 f1)) ?_
  rintro r w2 ⟨rfl, f2⟩
  have k2 := k2.fr0 f2
  have hF := f1.tr f2
  refine sA [] rfl ?_; refine ev_loadAggB rfl rfl tabOk rfl rfl ‹_› (by rfl) ?_
  refine ev_call rfl rfl rfl (lPlain s w2) ?_
  rintro r w3 ⟨rfl, f3⟩
  have k2 := k2.fr0 f3
  have hF := hF.tr f3
  refine sA [] rfl ?_
  refine ev_call rfl rfl rfl (refSampleA s seed w3 hseed) ?_
  rintro r w4 ⟨u, rfl, hup, hu, f4⟩
  have k2 := k2.fr0 f4
  have hF := hF.tr f4
  refine sA [] rfl ?_
  refine ev_alloc rfl rfl inf43 (fun p5 w5 hp5 k5 f5 => ?_)
  refine ev_storeAgg tabOk rfl rfl rfl rfl rfl rfl k5 rfl (fun w6 k5 f6 => ?_)
  have h46 : Fr no w4 w6 := f5.trans f6 fun z hz e => by have : z = p5 := e; omega
  have k5 : Blk w6 p5 (lmC u) 43 := k5
  have k2 := k2.fr0 h46
  have hu := hu.fr0 h46
  have hF := hF.tr h46
  have hT6 := hT.fr0 hF
  have hul := smp_Sm hup
  refine sA [] rfl ?_
  refine ev_loop (α := Nat) (fun y => [(1, i64 seed), (2, .pointer (some ⟨p2, 0, none⟩)), (5, .pointer (some ⟨p5, 0, none⟩)), (6, i64 (chkS s)), (23, i64 y)]) (fun y w' => y ≤ 2 ∧ Fr no w6 w') (fun y => 2 - y) 0 ⟨rfl, rfl, rfl, rfl, rfl, trivial⟩ ⟨Nat.zero_le _, Fr.refl _ _⟩ ?_
  rintro y wb ⟨hy, h6b⟩
  refine sC [] rfl ?_; refine sD [] rfl ?_
  refine ev_condD rfl (fun cy => ?_) (fun cy => ?_)
  rotate_left
  · refine sA [] rfl ?_
    exact ret1 (.inr rfl) rfl rfl ⟨rfl, hF.tr h6b⟩
  have k2 := k2.fr0 h6b
  have k5 := k5.fr0 h6b
  have hu := hu.fr0 h6b
  refine sA [] rfl ?_; refine ev_loadAggB rfl rfl tabOk rfl rfl ‹_› (by rfl) ?_; refine sA [] rfl ?_
  refine ev_call rfl rfl rfl (wSampleA s seed wb hseed (hT6.fr0 h6b)) ?_
  rintro r v1 ⟨m, rfl, hmp, hO⟩
  have hml := smp_Sm hmp
  have hgain := smp_gain hmp
  have k2 := k2.fr0 hO.fr
  have k5 := k5.fr0 hO.fr
  have hu := hu.fr0 hO.fr
  refine sA [] rfl ?_
  refine ev_alloc rfl rfl inf51 (fun p7 v2 hp7 k7 d2 => ?_)
  refine ev_storeAgg tabOk rfl rfl rfl rfl rfl rfl k7 rfl (fun v3 k7 d3 => ?_)
  have h13 : Fr no v1 v3 := d2.trans d3 fun z hz e => by have : z = p7 := e; omega
  have k7 : Blk v3 p7 (lmC m) 51 := k7
  have k2 := k2.fr0 h13
  have k5 := k5.fr0 h13
  have hu := hu.fr0 h13
  have hO3 := hO.fr0 h13
  have hbk := hO3.blk
  have hw0 : WS wb v3 m p7 := ⟨hO3.fr, k7, fun r hr => ⟨_, (hO3.rows r hr).1⟩, fun b hb => hO3.At.bs b hb _ (by simp), hO3.At.blk⟩
  have hp7' : v1.heap.size ≤ p7 := hp7
  have hge := fun (r : Rw) (hr : r ∈ m.all) (g : Nat) (hg : r.v.ownBlock = some g) => hO.ge_all hr hg
  have hbk1 := hO.blk
  have hbl := hml.bl
  refine sA [] rfl ?_
  refine ev_join1 (α := Unit) (fun _ => [(1, i64 seed), (2, .pointer (some ⟨p2, 0, none⟩)), (5, .pointer (some ⟨p5, 0, none⟩)), (6, i64 (chkS s)), (23, i64 y), (7, .pointer (some ⟨p7, 0, none⟩)), (40, .bool false)]) (fun _ w' => Fr no v3 w') ?_ ?_
  · refine mixC_in (fun w' => Fr no v3 w') mixed (fun v4 g => ?_)
    refine mix_run 3 tabOk rfl (by kernel_rfl) (by kernel_rfl) ?_
    rw [show decide (¬ chkS s = chkS s) = false from neq_same _]
    refine mA rfl (by kernel_rfl) (by kernel_rfl) ?_
    refine m_loadAgg 4 rfl rfl rfl (by kernel_rfl) (by kernel_rfl) rfl rfl tabOk rfl rfl rfl (fun w' h => Cs.of_blk (k7.fr0 h)) ?_
    refine m_loadAgg 6 rfl rfl rfl (by kernel_rfl) (by kernel_rfl) rfl rfl tabOk rfl rfl rfl (fun w' h => Cs.of_blk (k5.fr0 h)) ?_
    refine mix1 rfl rfl ?_ g
    refine ev_call rfl rfl rfl (refOf m v4 (hO3.At.fr0 g) hml) ?_
    rintro r v5 ⟨t, rfl, htp, hOt⟩
    have g := g.tr hOt.fr
    refine mix_op ?_
    refine mix1 rfl rfl ?_ g
    refine ev_call rfl rfl rfl (refSameM t u v5 hOt.At (hu.fr0 g) (Sm_p htp hml) hul) ?_
    rintro r v6 ⟨rfl, d6⟩
    rw [eqB_t (show t.p = u.p by rw [htp, hmp, hup])]
    have g := g.tr d6
    refine mix_op ?_
    refine mA rfl (by kernel_rfl) (by kernel_rfl) ?_
    refine mix_out rfl ?_ g
    skip
    exact ev_out () g ⟨rfl, rfl, rfl, rfl, rfl, rfl, rfl, trivial⟩
  rintro ⟨⟩ v4 h34
  have k2 := k2.fr0 h34
  have k5 := k5.fr0 h34
  have hw4 : WS wb v4 m p7 := ⟨hw0.fr.tr h34, hw0.k.fr0 h34, fun r hr => have ⟨cs, hc⟩ := hw0.own r hr; ⟨cs, hc.fr0 h34⟩, fun b hb => (hw0.g2 b hb).fr0 h34, hw0.bl.fr0 h34⟩
  have hk7 := hw4.k
  refine sA [] rfl ?_; refine ev_loadB rfl rfl tabOk rfl rfl ‹_› (by rfl) ?_; refine sA [] rfl ?_
  have hl_e := hml.rows m.e (by simp)
  refine ev_loop (α := Nat) (fun i => [(1, i64 seed), (2, .pointer (some ⟨p2, 0, none⟩)), (5, .pointer (some ⟨p5, 0, none⟩)), (6, i64 (chkS s)), (23, i64 y), (7, .pointer (some ⟨p7, 0, none⟩)), (43, i64 m.e.xs.length), (44, i64 i)]) (fun i w' => i ≤ m.e.xs.length ∧ WS wb w' m p7) (fun i => m.e.xs.length - i) 0 ⟨rfl, rfl, rfl, rfl, rfl, rfl, rfl, rfl, trivial⟩ ⟨Nat.zero_le _, hw4⟩ ?_
  clear hw4 hk7
  rintro i v4 ⟨hi, hw4⟩
  have hk7 := hw4.k
  refine sC [] rfl ?_; refine sD [] rfl ?_
  refine ev_condD rfl (fun c => ?_) (fun c => ?_)
  · have hin : i < m.e.xs.length := by omega
    obtain ⟨cs, hc⟩ := hw4.own m.e (by simp [LM.all])
    obtain ⟨g, hA, hg⟩ := own_at hc hin
    refine sA [] rfl ?_; refine ev_loadB rfl rfl tabOk rfl rfl ‹_› (by rfl) ?_; refine sA [] rfl ?_
    refine ev_indexAddr rfl rfl tabOk (congrArg (fun z => some (Value.slice z m.e.xs.length m.e.c)) hA) rfl rfl (by omega) (by omega) ?_
    refine ev_storeRow tabOk rfl rfl rfl rfl rfl rfl hc hg (by omega) (fun v5 hc5 d5 => ?_)
    have hw5 := hw4.store hO hbk1 (r := m.e) (by simp [LM.all]) hg (bare_of hO hp7' (by simp) hg) (hge m.e (by simp [LM.all]) g hg) d5 hc5
    refine sA [] rfl ?_; refine ev_arith rfl rfl rfl rfl rfl (by simp only [lowK, hiK]; omega) ?_; refine sA [] rfl ?_
    refine ev_next (i + 1) (by omega) ⟨by omega, hw5⟩ ⟨rfl, rfl, rfl, rfl, rfl, rfl, rfl, by rw [show ((i + 1 : Nat) : Int) = (i : Int) + 1 by omega]; rfl, trivial⟩
  refine sA [] rfl ?_; refine ev_loadB rfl rfl tabOk rfl rfl ‹_› (by rfl) ?_; refine sA [] rfl ?_
  have hl_bend := hml.rows m.bend (by simp)
  refine ev_loop (α := Nat) (fun i => [(1, i64 seed), (2, .pointer (some ⟨p2, 0, none⟩)), (5, .pointer (some ⟨p5, 0, none⟩)), (6, i64 (chkS s)), (23, i64 y), (7, .pointer (some ⟨p7, 0, none⟩)), (54, i64 m.bend.xs.length), (55, i64 i)]) (fun i w' => i ≤ m.bend.xs.length ∧ WS wb w' m p7) (fun i => m.bend.xs.length - i) 0 ⟨rfl, rfl, rfl, rfl, rfl, rfl, rfl, rfl, trivial⟩ ⟨Nat.zero_le _, hw4⟩ ?_
  clear hw4 hk7
  rintro i v4 ⟨hi, hw4⟩
  have hk7 := hw4.k
  refine sC [] rfl ?_; refine sD [] rfl ?_
  refine ev_condD rfl (fun c => ?_) (fun c => ?_)
  · have hin : i < m.bend.xs.length := by omega
    obtain ⟨cs, hc⟩ := hw4.own m.bend (by simp [LM.all])
    obtain ⟨g, hA, hg⟩ := own_at hc hin
    refine sA [] rfl ?_; refine ev_loadB rfl rfl tabOk rfl rfl ‹_› (by rfl) ?_; refine sA [] rfl ?_
    refine ev_indexAddr rfl rfl tabOk (congrArg (fun z => some (Value.slice z m.bend.xs.length m.bend.c)) hA) rfl rfl (by omega) (by omega) ?_
    refine ev_storeRow tabOk rfl rfl rfl rfl rfl rfl hc hg (by omega) (fun v5 hc5 d5 => ?_)
    have hw5 := hw4.store hO hbk1 (r := m.bend) (by simp [LM.all]) hg (bare_of hO hp7' (by simp) hg) (hge m.bend (by simp [LM.all]) g hg) d5 hc5
    refine sA [] rfl ?_; refine ev_arith rfl rfl rfl rfl rfl (by simp only [lowK, hiK]; omega) ?_; refine sA [] rfl ?_
    refine ev_next (i + 1) (by omega) ⟨by omega, hw5⟩ ⟨rfl, rfl, rfl, rfl, rfl, rfl, rfl, by rw [show ((i + 1 : Nat) : Int) = (i : Int) + 1 by omega]; rfl, trivial⟩
  refine sA [] rfl ?_; refine ev_loadB rfl rfl tabOk rfl rfl ‹_› (by rfl) ?_; refine sA [] rfl ?_
  have hl_gain := hml.rows m.gain (by simp)
  refine ev_loop (α := Nat) (fun i => [(1, i64 seed), (2, .pointer (some ⟨p2, 0, none⟩)), (5, .pointer (some ⟨p5, 0, none⟩)), (6, i64 (chkS s)), (23, i64 y), (7, .pointer (some ⟨p7, 0, none⟩)), (65, i64 m.gain.xs.length), (66, i64 i)]) (fun i w' => i ≤ m.gain.xs.length ∧ WS wb w' m p7) (fun i => m.gain.xs.length - i) 0 ⟨rfl, rfl, rfl, rfl, rfl, rfl, rfl, rfl, trivial⟩ ⟨Nat.zero_le _, hw4⟩ ?_
  clear hw4 hk7
  rintro i v4 ⟨hi, hw4⟩
  have hk7 := hw4.k
  refine sC [] rfl ?_; refine sD [] rfl ?_
  refine ev_condD rfl (fun c => ?_) (fun c => ?_)
  · have hin : i < m.gain.xs.length := by omega
    obtain ⟨cs, hc⟩ := hw4.own m.gain (by simp [LM.all])
    obtain ⟨g, hA, hg⟩ := own_at hc hin
    refine sA [] rfl ?_; refine ev_loadB rfl rfl tabOk rfl rfl ‹_› (by rfl) ?_; refine sA [] rfl ?_
    refine ev_indexAddr rfl rfl tabOk (congrArg (fun z => some (Value.slice z m.gain.xs.length m.gain.c)) hA) rfl rfl (by omega) (by omega) ?_
    refine ev_storeRow tabOk rfl rfl rfl rfl rfl rfl hc hg (by omega) (fun v5 hc5 d5 => ?_)
    have hw5 := hw4.store hO hbk1 (r := m.gain) (by simp [LM.all]) hg (bare_of hO hp7' (by simp) hg) (hge m.gain (by simp [LM.all]) g hg) d5 hc5
    refine sA [] rfl ?_; refine ev_arith rfl rfl rfl rfl rfl (by simp only [lowK, hiK]; omega) ?_; refine sA [] rfl ?_
    refine ev_next (i + 1) (by omega) ⟨by omega, hw5⟩ ⟨rfl, rfl, rfl, rfl, rfl, rfl, rfl, by rw [show ((i + 1 : Nat) : Int) = (i : Int) + 1 by omega]; rfl, trivial⟩
  refine sA [] rfl ?_; refine ev_loadB rfl rfl tabOk rfl rfl ‹_› (by rfl) ?_; refine sA [] rfl ?_
  refine ev_loop (α := Nat) (fun i => [(1, i64 seed), (2, .pointer (some ⟨p2, 0, none⟩)), (5, .pointer (some ⟨p5, 0, none⟩)), (6, i64 (chkS s)), (23, i64 y), (7, .pointer (some ⟨p7, 0, none⟩)), (75, .slice m.bA m.bs.length m.bc), (76, i64 m.bs.length), (77, i64 i)]) (fun i w' => i ≤ m.bs.length ∧ WS wb w' m p7) (fun i => m.bs.length - i) 0 ⟨rfl, rfl, rfl, rfl, rfl, rfl, rfl, rfl, rfl, trivial⟩ ⟨Nat.zero_le _, hw4⟩ ?_
  clear hw4 hk7
  rintro i v4 ⟨hi, hw4⟩
  have hk7 := hw4.k
  refine sC [] rfl ?_; refine sD [] rfl ?_
  refine ev_condD rfl (fun c => ?_) (fun c => ?_)
  · have hin : i < m.bs.length := by omega
    obtain ⟨bg, bo, hbA, _⟩ := blk_at hw4.bl hin
    have hcell : ∀ w', WS wb w' m p7 → Cs w' (some ⟨bg, bo + (i : Int).toNat * 17, none⟩) (bkC m.bs[i]) := fun w' h => by
      obtain ⟨g', o', e, hcs⟩ := blk_at h.bl hin
      rw [hbA] at e; cases e; exact hcs
    have hbm := List.getElem_mem hin
    have hgb := hgain _ hbm
    have hg1l := (hml.bs _ hbm) m.bs[i].g1 (by simp)
    have hall1 : m.bs[i].g1 ∈ m.all := mem_all2 hbm (by simp)
    have hg2a : ∀ w', WS wb w' m p7 → m.bs[i].g2.At w' := fun w' h => h.g2 _ hbm
    have hst : ∀ (w' w2 : World) (g : Nat) (cs : List Value), WS wb w' m p7 → m.bs[i].g1.v.ownBlock = some g → Fr (fun c => c = g) w' w2 → Own w2 56 1 m.bs[i].g1.v m.bs[i].g1.xs.length cs → WS wb w2 m p7 := fun w' w2 g cs h hg d hc => h.store hO hbk1 hall1 hg (bare_g1 hO hp7' hbm hg) (hge _ hall1 g hg) d hc
    have hown1 : ∀ w', WS wb w' m p7 → ∃ cs, Own w' 56 1 m.bs[i].g1.v m.bs[i].g1.xs.length cs := fun w' h => h.own _ hall1
    obtain ⟨b, hb⟩ : ∃ b, b = m.bs[i] := ⟨_, rfl⟩
    rw [← hb] at hcell hgb hg1l hg2a hst hown1
    have hc0 : v4.cell? ⟨bg, bo + (i : Int).toNat * 17, none⟩ = some b.g1.v := (hcell v4 hw4).at (j := 0) rfl
    refine sA [] rfl ?_; refine ev_loadB rfl rfl tabOk rfl rfl ‹_› (by rfl) ?_; refine sA [] rfl ?_
    refine ev_indexAddr rfl rfl tabOk (congrArg (fun z => some (Value.slice z m.bs.length m.bc)) hbA) rfl rfl (by omega) (by omega) ?_
    refine sA [] rfl ?_; refine ev_load rfl rfl tabOk rfl rfl ‹_› ?_; refine sA [] rfl ?_
    refine ev_loop (α := Nat) (fun j => [(1, i64 seed), (2, .pointer (some ⟨p2, 0, none⟩)), (5, .pointer (some ⟨p5, 0, none⟩)), (6, i64 (chkS s)), (23, i64 y), (7, .pointer (some ⟨p7, 0, none⟩)), (75, .slice m.bA m.bs.length m.bc), (76, i64 m.bs.length), (77, i64 i), (12, i64 i), (86, i64 b.g1.xs.length), (87, i64 j)]) (fun j w' => j ≤ b.g1.xs.length ∧ WS wb w' m p7) (fun j => b.g1.xs.length - j) 0 ⟨rfl, rfl, rfl, rfl, rfl, rfl, rfl, rfl, rfl, rfl, rfl, rfl, trivial⟩ ⟨Nat.zero_le _, hw4⟩ ?_
    clear hw4 hk7 hc0
    rintro j v4 ⟨hj, hw4⟩
    have hk7 := hw4.k
    refine sC [] rfl ?_; refine sD [] rfl ?_
    refine ev_condD rfl (fun c2 => ?_) (fun c2 => ?_)
    · have hjn : j < b.g1.xs.length := by omega
      have hc5 : v4.cell? ⟨bg, bo + (i : Int).toNat * 17 + 5, none⟩ = some b.g2.v := (hcell v4 hw4).at (j := 5) rfl
      have hc0 : v4.cell? ⟨bg, bo + (i : Int).toNat * 17, none⟩ = some b.g1.v := (hcell v4 hw4).at (j := 0) rfl
      have hl2 : b.g2.xs.length = b.g1.xs.length := by rw [hgb, gain_len]
      obtain ⟨g2, o2, hA2, hcc⟩ := (hg2a v4 hw4) j (i8v 64) (by rw [hgb, List.getElem?_map, show (gainF b.g1.xs.length)[j]? = some 64 by unfold gainF; rw [List.getElem?_replicate, if_pos hjn]]; rfl)
      have hcc : v4.cell? ⟨g2, o2 + (j : Int).toNat * 1, none⟩ = some (.int .i8 64) := by rw [show o2 + (j : Int).toNat * 1 = o2 + j by omega]; exact hcc
      obtain ⟨cs, hc⟩ := hown1 v4 hw4
      obtain ⟨g, hA, hg⟩ := own_at hc hjn
      refine sA [] rfl ?_; refine ev_loadB rfl rfl tabOk rfl rfl ‹_› (by rfl) ?_; refine sA [] rfl ?_
      refine ev_indexAddr rfl rfl tabOk (congrArg (fun z => some (Value.slice z m.bs.length m.bc)) hbA) rfl rfl (by omega) (by omega) ?_
      refine sA [] rfl ?_; refine ev_load rfl rfl tabOk rfl rfl ‹_› ?_; refine sA [] rfl ?_
      refine ev_indexAddr rfl rfl tabOk (congrArg (fun z => some (Value.slice z b.g2.xs.length b.g2.c)) hA2) rfl rfl (by omega) (by omega) ?_
      refine ev_load rfl rfl tabOk rfl rfl ‹_› ?_; refine sA [] rfl ?_; refine ev_loadB rfl rfl tabOk rfl rfl ‹_› (by rfl) ?_; refine sA [] rfl ?_
      refine ev_indexAddr rfl rfl tabOk (congrArg (fun z => some (Value.slice z m.bs.length m.bc)) hbA) rfl rfl (by omega) (by omega) ?_
      refine sA [] rfl ?_; refine ev_load rfl rfl tabOk rfl rfl ‹_› ?_; refine sA [] rfl ?_
      refine ev_indexAddr rfl rfl tabOk (congrArg (fun z => some (Value.slice z b.g1.xs.length b.g1.c)) hA) rfl rfl (by omega) (by omega) ?_
      refine ev_storeRow tabOk rfl rfl rfl rfl rfl rfl hc hg (by omega) (fun v5 hc5' d5 => ?_)
      have hw5 := hst v4 v5 g _ hw4 hg d5 hc5'
      refine sA [] rfl ?_; refine ev_arith rfl rfl rfl rfl rfl (by simp only [lowK, hiK]; omega) ?_; refine sA [] rfl ?_
      refine ev_next (j + 1) (by omega) ⟨by omega, hw5⟩ ⟨rfl, rfl, rfl, rfl, rfl, rfl, rfl, rfl, rfl, rfl, rfl, by rw [show ((j + 1 : Nat) : Int) = (j : Int) + 1 by omega]; rfl, trivial⟩
    · refine sA [] rfl ?_; refine ev_arith rfl rfl rfl rfl rfl (by simp only [lowK, hiK]; omega) ?_; refine sA [] rfl ?_
      refine ev_next (i + 1) (by omega) ⟨by omega, hw4⟩ ⟨rfl, rfl, rfl, rfl, rfl, rfl, rfl, rfl, by rw [show ((i + 1 : Nat) : Int) = (i : Int) + 1 by omega]; rfl, trivial⟩
  · refine sA [] rfl ?_; refine ev_arith rfl rfl rfl rfl rfl (by simp only [lowK, hiK]; omega) ?_; refine sA [] rfl ?_
    refine ev_next (y + 1) (by omega) ⟨by omega, h6b.tr hw4.fr⟩ ⟨rfl, rfl, rfl, rfl, by rw [show ((y + 1 : Nat) : Int) = (y : Int) + 1 by omega]; rfl, trivial⟩
end Go.Wk.YtfgllkflnkolhaaDoor
