/-
  Chapter 17: law FileMemory.
-/
import Derived.Test.YtdelgnflcfhhkaaFlW
set_option linter.unusedVariables false
namespace Go.Wk.Ytdelgnflcfhhkaa
open Go Go.Wk Go.Proofs

theorem own_apart2 {w : World} {e1 e2 s1 s2 : Nat} {v1 v2 : Value} {n1 n2 : Nat} {x1 x2 : List Value} (h1 : Own w e1 s1 v1 n1 x1) (h2 : Own w e2 s2 v2 n2 x2) (he : e1 ≠ e2) : ∀ g, v1.ownBlock = some g → v2.ownBlock ≠ some g := by
  intro g hg hg2
  rcases h1.2 with ⟨rfl, _⟩ | ⟨q1, c1, k1, rfl, _, hq1, _⟩
  · cases hg
  rcases h2.2 with ⟨rfl, _⟩ | ⟨q2, c2, k2, rfl, _, hq2, _⟩
  · cases hg2
  simp only [Value.ownBlock, Option.some.injEq] at hg hg2
  subst hg hg2
  rw [hq1] at hq2
  simp only [Option.some.injEq, Obj.cells.injEq] at hq2
  exact he hq2.2.1
theorem own_at3 {w : World} {e sz n c i : Nat} {A : Option Addr} {cs : List Value} (h : Own w e sz (.slice A n c) n cs) (hi : i < n) : ∃ g, A = some ⟨g, 0, none⟩ ∧ (Value.slice A n c).ownBlock = some g := by
  rcases h.2 with ⟨e2, h0⟩ | ⟨g, cap, cur, e2, _⟩
  · omega
  · injection e2 with e3
    exact ⟨g, e3, by rw [e3]; rfl⟩
/-- rows of one's own that are written leave another model -/
theorem OwnM.keep {TM TB : TypeId} {w0 w w' : World} {m : LM} {S : Nat → Prop} (h : OwnM TM TB w0 w m) (hf : Fr S w w') (hS : ∀ c, w0.heap.size ≤ c → ¬ S c) : m.At w' :=
  ⟨⟨own_cs (h.txt.fr hf fun g hg => hS g (h.ge g (.inl hg)).1), own_cs (h.mrg.fr hf fun g hg => hS g (h.ge g (.inr (.inl hg))).1)⟩, fun r hr => ((h.rows r (mem_all1 hr)).fr hf fun g hg => hS g ((h.rows r (mem_all1 hr)).2 g hg)).At,
   own_cs (h.blk.fr hf fun g hg => hS g (h.ge g (.inr (.inr hg))).1), fun b hb r hr => ((h.rows r (mem_all2 hb hr)).fr hf fun g hg => hS g ((h.rows r (mem_all2 hb hr)).2 g hg)).At⟩
/-- the rows of a model in the order of the law -/
def memL (m : LM) : List Rw := [m.e, m.cos, m.sin, m.bend, m.gain, m.un] ++ m.bs.flatMap Bk.frs
theorem memL_perm (m : LM) : (memL m).Perm m.all := by
  have p2 := permM m.e m.cos m.sin m.bend m.gain m.un (m.bs.flatMap Bk.frs)
  have p3 : ([m.gain, m.cos, m.sin, m.bend, m.e] ++ m.bs.flatMap Bk.frs ++ [m.un]).Perm ([m.gain, m.cos, m.sin, m.bend, m.e] ++ m.bs.flatMap Bk.rows ++ [m.un]) := ((frs_perm m.bs).append_left _).append_right _
  exact p2.trans p3
theorem memL_nr {TM TB : TypeId} {w0 w : World} {m : LM} (h : OwnM TM TB w0 w m) : NR w0 w (memL m) :=
  ⟨fun r hr => h.rows r ((memL_perm m).mem_iff.1 hr), ((memL_perm m).pairwise_iff apR_symm).2 h.ap⟩
theorem frs_len (l : List (Bk Rw)) : (l.flatMap Bk.frs).length = 9 * l.length := by
  induction l with
  | nil => rfl
  | cons b l ih => rw [List.flatMap_cons, List.length_append, ih]; show 9 + 9 * l.length = 9 * (l.length + 1); omega
theorem memL_len (m : LM) : (memL m).length = 6 + 9 * m.bs.length := by
  unfold memL; rw [List.length_append, frs_len]; rfl
def rg (w0 w1 : World) : Nat → Prop := fun c => w0.heap.size ≤ c ∧ c < w1.heap.size
def rb (L : List Rw) : Nat → Prop := fun c => ∃ r ∈ L, r.v.ownBlock = some c
theorem smq_all {m : LM} (h : SmQ m.p) {r : Rw} (hr : r ∈ m.all) : r.xs.length ≤ 100000 := by
  obtain ⟨r1, r2, r3, r4, r5, r6⟩ := h.rw
  rcases List.mem_append.1 hr with hr | hr
  · rcases List.mem_append.1 hr with hr | hr
    · simp only [List.mem_cons, List.not_mem_nil, or_false] at hr
      rcases hr with rfl | rfl | rfl | rfl | rfl
      · exact r5
      · exact r2
      · exact r3
      · exact r4
      · exact r1
    · obtain ⟨b, hb, hr⟩ := List.mem_flatMap.1 hr
      refine h.br (pBk b) (List.mem_map_of_mem hb) r.xs ?_
      have hr : r = b.g1 ∨ r = b.g2 ∨ r = b.q ∨ r = b.k ∨ r = b.v ∨ r = b.o ∨ r = b.ga ∨ r = b.up ∨ r = b.dn := by simpa using hr
      rcases hr with rfl | rfl | rfl | rfl | rfl | rfl | rfl | rfl | rfl <;> simp [Bk.map]
  · rw [List.mem_singleton.1 hr]; exact r6
/-- the rows, and the row of them, while they are written -/
structure KM (w1 wb w : World) (lv : Value) (L : List Rw) (X : Nat → List Int8) : Prop where
  row : ∀ j (h : j < L.length), Own w 60 1 (L[j]).v (L[j]).xs.length ((X j).map i8v)
  ls : Own w 28 1 lv L.length (L.map Rw.v)
  lg : ∀ g, lv.ownBlock = some g → w1.heap.size ≤ g
  fr : Fr (rb L) wb w
theorem ap_at {w0 w1 : World} {L : List Rw} (hN : NR w0 w1 L) {i j : Nat} (hi : i < L.length) (hj : j < L.length) (hne : i ≠ j) {g : Nat} (hg : (L[i]).v.ownBlock = some g) : (L[j]).v.ownBlock ≠ some g := by
  have h := List.pairwise_iff_getElem.1 hN.ap
  rcases Nat.lt_or_gt_of_ne hne with z | z
  · exact h i j hi hj z g hg
  · exact apR_symm (h j i hj hi z) g hg
section
variable {w0 w1 wb w w' : World} {lv : Value} {L : List Rw} {X : Nat → List Int8}
theorem KM.len (h : KM w1 wb w lv L X) {j : Nat} (hj : j < L.length) : (X j).length = (L[j]).xs.length := by
  have := (h.row j hj).len
  rw [List.length_map, Nat.mul_one] at this; exact this
theorem KM.fr0 (h : KM w1 wb w lv L X) (hf : Fr no w w') : KM w1 wb w' lv L X :=
  ⟨fun j hj => (h.row j hj).fr0 hf, h.ls.fr0 hf, h.lg, h.fr.tr hf⟩
theorem KM.store (h : KM w1 wb w lv L X) (hN : NR w0 w1 L) {i k : Nat} {x : Int8} (hi : i < L.length) {g : Nat} (hg : (L[i]).v.ownBlock = some g) (hO : Own w' 60 1 (L[i]).v (L[i]).xs.length (((X i).map i8v).set k (i8v x))) (hf : Fr (fun c => c = g) w w') :
    KM w1 wb w' lv L fun j => if j = i then (X i).set k x else X j := by
  have hO1 := hN.rows L[i] (List.getElem_mem hi)
  have hlt := hO1.lt hg
  refine ⟨fun j hj => ?_, h.ls.fr hf (fun z hz e => by have := h.lg z hz; have e : z = g := e; omega), h.lg, h.fr.trans hf fun z _ e => by have e : z = g := e; rw [e]; exact ⟨L[i], List.getElem_mem hi, hg⟩⟩
  by_cases e : j = i
  · subst e
    simp only [if_true]
    rw [List.map_set]; exact hO
  · simp only [if_neg e]
    exact (h.row j hj).fr hf fun z hz y => ap_at hN hi hj (fun z => e z.symm) hg (by have y : z = g := y; rw [← y]; exact hz)
end
/-- which cells are marked -/
def Mk (L : List Rw) (i k : Nat) (X : Nat → List Int8) : Prop := ∀ j t, (hj : j < L.length) → t < (L[j]).xs.length → (j < i ∨ (j = i ∧ t < k)) → (X j)[t]? = some (Int8.ofInt j)
theorem mk_val {j : Nat} (h : j ≤ 127) : (Int8.ofInt j).toInt = j := Int8.toInt_ofInt_of_le (by omega) (by omega)
theorem Mk.step {L : List Rw} {i k : Nat} {X : Nat → List Int8} (h : Mk L i k X) (hi : i < L.length) (hk : k < (L[i]).xs.length) (hl : (X i).length = (L[i]).xs.length) : Mk L i (k + 1) fun j => if j = i then (X i).set k (Int8.ofInt i) else X j := by
  intro j t hj ht hc
  by_cases e : j = i
  · subst e
    simp only [if_true]
    by_cases e2 : t = k
    · subst e2
      rw [List.getElem?_set_self (by omega)]
    · rw [List.getElem?_set_ne (fun z => e2 z.symm)]
      exact h j t hj ht (by omega)
  · simp only [if_neg e]
    exact h j t hj ht (by omega)
theorem Mk.next {L : List Rw} {i : Nat} {X : Nat → List Int8} (hi : i < L.length) (h : Mk L i (L[i]).xs.length X) : Mk L (i + 1) 0 X := fun j t hj ht hc => by
  refine h j t hj ht ?_
  by_cases e : j = i
  · subst e; exact .inr ⟨rfl, ht⟩
  · omega
set_option maxHeartbeats 32000000 in
set_option maxRecDepth 10000 in
theorem lawMemory (s : List UInt8) (w : World) (hs : s.length ≤ 140737488351232) :
    CallsF Try.prog 7 [.string (sOf s)] w fun r w' => r = .bool true ∧ Fr no w w' := by
  have hsq := decA_smq s
  have hrd := refDecode s
  have hwd := fun w => wDecode s w (by omega)
  obtain ⟨⟨Y, e⟩, hY⟩ : ∃ z, z = decA s := ⟨_, rfl⟩
  rw [← hY] at hsq hrd
  have hwd : ∀ w, CallsF Try.prog 11 [.string (sOf s)] w fun r w' => ∃ m, r = .tuple #[lmV m, i64 e] ∧ m.p = Y ∧ OwnS w w' m := fun w => by
    have h := hwd w; rw [← hY] at h; exact h
  have hsm : ∀ m : LM, m.p = Y → m.Sm := fun m h => sm_q (by rw [h]; exact hsq)
  refine callsF Try.func7 rfl rfl (by decide) rfl ?_
  refine sA [] rfl ?_
  refine ev_call rfl rfl rfl (hrd w (by omega)) ?_
  rintro r wx ⟨t, rfl, htp, ht, fx⟩
  have htp : t.p = Y := htp
  have htl := hsm t htp
  refine sA [] rfl ?_
  refine ev_alloc rfl rfl inf41 (fun p3 wy hp3 k3 fy => ?_)
  refine ev_storeAgg tabOk rfl rfl rfl rfl rfl rfl k3 rfl (fun w0 k30 fz => ?_)
  have hx0 : Fr no wx w0 := fy.trans fz fun z hz e => by have : z = p3 := e; omega
  have k3 : Blk w0 p3 (lmC t) 41 := k30
  have hp3l : p3 < w0.heap.size := k3.lt
  have ht := ht.fr0 hx0
  have ht0 := ht
  have hF := fx.tr hx0
  clear k30
  refine sA [] rfl ?_
  refine ev_call rfl rfl rfl (hwd w0) ?_
  rintro r w1 ⟨a, rfl, hap, hOa⟩
  have hal := hsm a hap
  refine sA [] rfl ?_
  refine ev_alloc rfl rfl inf31 (fun p5 wy hp5 k5 fy => ?_)
  refine ev_storeAgg tabOk rfl rfl rfl rfl rfl rfl k5 rfl (fun w2 k50 fz => ?_)
  have h12 : Fr no w1 w2 := fy.trans fz fun z hz e => by have : z = p5 := e; omega
  have k5 : Blk w2 p5 (lmC a) 31 := k50
  clear k50
  refine sA [] rfl ?_
  refine ev_call rfl rfl rfl (hwd w2) ?_
  rintro r w3 ⟨b, rfl, hbp, hOb⟩
  have sz23 := hOb.fr.size
  have hbl := hsm b hbp
  refine sA [] rfl ?_
  refine ev_alloc rfl rfl inf31 (fun p7 wu hp7 k7 fu => ?_)
  refine ev_storeAgg tabOk rfl rfl rfl rfl rfl rfl k7 rfl (fun w4 k70 fv => ?_)
  have h34 : Fr no w3 w4 := fu.trans fv fun z hz e => by have : z = p7 := e; omega
  have k7 : Blk w4 p7 (lmC b) 31 := k70
  clear k70
  have h02 : Fr no w0 w2 := hOa.fr.tr h12
  have h24 : Fr no w2 w4 := hOb.fr.tr h34
  have h04 := h02.tr h24
  have k3 := k3.fr0 h04
  have k5 := k5.fr0 h24
  have ht := ht.fr0 h04
  have hOb := hOb.fr0 h34
  have hOa4 := hOa.fr0 (h12.tr h24)
  have hF4 := hF.tr h04
  have sz1 := hOa.fr.size
  have sz2 := h12.size
  have sz3 := hOb.fr.size
  have sz4 := h34.size
  have sz5 := h24.size

  refine sA [] rfl ?_
  refine mixC_in (fun w' => Fr no w4 w') mixed (fun v g => ?_)
  refine mix1 rfl rfl ?_ g
  refine ev_call rfl rfl rfl (lAwake17 v) ?_
  rintro r v1 ⟨rfl, g1⟩
  have g := g.tr g1
  refine mix_op ?_
  refine mA rfl (by kernel_rfl) (by kernel_rfl) ?_
  refine m_loadAgg 3 rfl rfl rfl (by kernel_rfl) (by kernel_rfl) rfl rfl tabOk rfl rfl rfl (fun w' h => Cs.of_blk (k5.fr0 h)) ?_
  refine m_loadAgg 5 rfl rfl rfl (by kernel_rfl) (by kernel_rfl) rfl rfl tabOk rfl rfl rfl (fun w' h => Cs.of_blk (k3.fr0 h)) ?_
  refine mix1 rfl rfl ?_ g
  refine ev_call rfl rfl rfl (refOf a v1 (hOa4.At.fr0 g) hal) ?_
  rintro r v2 ⟨u, rfl, hup, hOu⟩
  have g := g.tr hOu.fr
  refine mix_op ?_
  refine mix1 rfl rfl ?_ g
  refine ev_call rfl rfl rfl (refSameM u t v2 hOu.At (ht.fr0 g) (Sm_p hup hal) htl) ?_
  rintro r wb ⟨rfl, g3⟩
  rw [eqB_t (show u.p = t.p by rw [hup, hap, htp])]
  have g := g.tr g3
  refine mix_op ?_
  refine mA rfl (by kernel_rfl) (by kernel_rfl) ?_
  refine mix_out rfl ?_ g
  have k3 := k3.fr0 g
  have k5 := k5.fr0 g
  have k7 := k7.fr0 g
  have ht := ht.fr0 g
  have hOb := hOb.fr0 g
  have hOa4 := hOa4.fr0 g
  have h0b := h04.tr g
  have sz6 := g.size
  have hb8 : a.bs.length ≤ 8 := by
    have h := hsq.bs
    rw [show (Y, e).1 = a.p from hap.symm] at h
    rwa [show a.p.bs.length = a.bs.length from List.length_map _] at h
  have hN := memL_nr hOa
  have hxl : ∀ r ∈ a.all, r.xs.length ≤ 100000 := fun r hr => smq_all (by rw [hap]; exact hsq) hr
  refine sA [] rfl ?_; refine ev_loadB rfl rfl tabOk rfl rfl ‹_› (by rfl) ?_; refine sA [] rfl ?_; refine ev_loadB rfl rfl tabOk rfl rfl ‹_› (by rfl) ?_; refine sA [] rfl ?_; refine ev_loadB rfl rfl tabOk rfl rfl ‹_› (by rfl) ?_; refine sA [] rfl ?_; refine ev_loadB rfl rfl tabOk rfl rfl ‹_› (by rfl) ?_; refine sA [] rfl ?_; refine ev_loadB rfl rfl tabOk rfl rfl ‹_› (by rfl) ?_; refine sA [] rfl ?_; refine ev_loadB rfl rfl tabOk rfl rfl ‹_› (by rfl) ?_
  refine ev_buildSlice tabOk rfl rfl rfl inf28 rfl rfl rfl (fun v hv => by simp at hv; rcases hv with rfl | rfl | rfl | rfl | rfl | rfl <;> rfl) rfl (fun q9 wl hq9 kq9 f9 => ?_)
  have kq9 : Blk wl q9 ([a.e, a.cos, a.sin, a.bend, a.gain, a.un].map Rw.v) 28 := kq9
  have ho9 : Own wl 28 1 (.slice (some ⟨q9, 0, none⟩) 6 6) 6 ([a.e, a.cos, a.sin, a.bend, a.gain, a.un].map Rw.v) := own_of_blk kq9 rfl (by omega)
  refine sA [] rfl ?_
  refine ev_loop (α := Nat × Value) (fun z => [(0, .string (sOf s)), (3, ptA p3 0), (5, ptA p5 0), (7, ptA p7 0), (9, z.2), (10, i64 z.1)])
    (fun z w' => z.1 ≤ a.bs.length ∧ Own w' 28 1 z.2 (6 + 9 * z.1) (([a.e, a.cos, a.sin, a.bend, a.gain, a.un] ++ (a.bs.take z.1).flatMap Bk.frs).map Rw.v) ∧ Fr no wb w' ∧ ∀ g, z.2.ownBlock = some g → wb.heap.size ≤ g) (fun z => a.bs.length - z.1) (0, .slice (some ⟨q9, 0, none⟩) 6 6) ⟨rfl, rfl, rfl, rfl, rfl, rfl, trivial⟩
    ⟨Nat.zero_le _, ho9, f9, fun g hg => by cases hg; exact hq9⟩ ?_
  rintro ⟨y, lv⟩ wc ⟨hy, ho, fc, hlv⟩
  have hy : y ≤ a.bs.length := hy
  simp only at ho hlv
  have k5c := k5.fr0 fc
  obtain ⟨A9, c9, rfl, _, _⟩ := ho.slice
  refine sA [] rfl ?_; refine ev_loadB rfl rfl tabOk rfl rfl ‹_› (by rfl) ?_; refine sD [] rfl ?_; refine sD [] rfl ?_; refine sD [] rfl ?_
  refine ev_condD rfl (fun c => ?_) (fun c => ?_)
  · have hlt : y < a.bs.length := by omega
    obtain ⟨gb, ob, hA, hcs⟩ := blk_at ((hOa4.fr0 fc).At.blk) hlt
    obtain ⟨b', hb'⟩ : ∃ b', b' = a.bs[y] := ⟨_, rfl⟩
    rw [← hb'] at hcs
    refine sA [] rfl ?_; refine ev_loadB rfl rfl tabOk rfl rfl ‹_› (by rfl) ?_; refine sA [] rfl ?_
    refine ev_indexAddr rfl rfl tabOk (congrArg (fun z => some (Value.slice z a.bs.length a.bc)) hA) rfl rfl (by omega) (by omega) ?_
    refine ev_loadAgg rfl rfl tabOk rfl rfl rfl hcs ?_
    refine ev_alloc rfl rfl inf59 (fun q wd hq kd fd => ?_)
    refine ev_storeAgg tabOk rfl rfl rfl rfl rfl rfl kd rfl (fun we ke fe => ?_)
    have hce : Fr no wc we := fd.trans fe fun z hz e => by have : z = q := e; omega
    have ke : Blk we q (bkC b') 59 := ke
    have ho := ho.fr0 hce
    clear kd hcs k5c
    refine sA [] rfl ?_; refine ev_loadB rfl rfl tabOk rfl rfl ‹_› (by rfl) ?_; refine sA [] rfl ?_; refine ev_loadB rfl rfl tabOk rfl rfl ‹_› (by rfl) ?_; refine sA [] rfl ?_; refine ev_loadB rfl rfl tabOk rfl rfl ‹_› (by rfl) ?_; refine sA [] rfl ?_; refine ev_loadB rfl rfl tabOk rfl rfl ‹_› (by rfl) ?_; refine sA [] rfl ?_; refine ev_loadB rfl rfl tabOk rfl rfl ‹_› (by rfl) ?_; refine sA [] rfl ?_; refine ev_loadB rfl rfl tabOk rfl rfl ‹_› (by rfl) ?_; refine sA [] rfl ?_; refine ev_loadB rfl rfl tabOk rfl rfl ‹_› (by rfl) ?_; refine sA [] rfl ?_; refine ev_loadB rfl rfl tabOk rfl rfl ‹_› (by rfl) ?_; refine sA [] rfl ?_; refine ev_loadB rfl rfl tabOk rfl rfl ‹_› (by rfl) ?_
    refine ev_append1 (vs := [b'.g1.v, b'.q.v, b'.k.v, b'.v.v, b'.o.v, b'.g2.v, b'.ga.v, b'.up.v, b'.dn.v]) tabOk rfl rfl (fun _ => rfl) rfl rfl inf28 rfl (by omega) (fun _ => rfl) rfl rfl (fun v hv => by simp at hv; rcases hv with rfl | rfl | rfl | rfl | rfl | rfl | rfl | rfl | rfl <;> rfl) (allOne_ok rfl) rfl ho (by omega) (fun lv' wf bq hB e4 nB => ?_)
    have hB : Own wf 28 1 lv' (6 + 9 * (y + 1)) (([a.e, a.cos, a.sin, a.bend, a.gain, a.un] ++ (a.bs.take (y + 1)).flatMap Bk.frs).map Rw.v) := by
      have e : (a.bs.take (y + 1)).flatMap Bk.frs = (a.bs.take y).flatMap Bk.frs ++ b'.frs := by
        rw [List.take_succ_eq_append_getElem hlt, List.flatMap_append, hb']; simp
      rw [e, ← List.append_assoc, List.map_append]
      exact hB
    refine sA [] rfl ?_; refine ev_arith rfl rfl rfl rfl rfl (by simp only [lowK, hiK]; omega) ?_; refine sA [] rfl ?_
    refine ev_next (y + 1, lv') (by show a.bs.length - (y + 1) < a.bs.length - y; omega) ⟨by show y + 1 ≤ _; omega, hB, (fc.tr hce).trans e4 (fun z hz e => by have := hlv z e; omega), fun g hg => ?_⟩ ⟨rfl, rfl, rfl, rfl, rfl, by show _ = some (i64 ((y + 1 : Nat) : Int)); rw [show ((y + 1 : Nat) : Int) = (y : Int) + 1 by omega]; rfl, trivial⟩
    rcases nB g hg with h | h
    · exact hlv g h
    · have := fc.size
      have := hce.size
      omega
  have hyn : y = a.bs.length := by have c : ¬ (y : Int) < (a.bs.length : Int) := c; omega
  subst hyn
  rw [List.take_length] at ho
  obtain ⟨L, hL⟩ : ∃ L, L = memL a := ⟨_, rfl⟩
  have hLl := memL_len a
  rw [← hL] at hLl hN
  have hrb : ∀ r ∈ L, r ∈ a.all := fun r hr => (memL_perm a).mem_iff.1 (by rw [← hL]; exact hr)
  rw [← hLl] at ho hlv
  have ho : Own wc 28 1 (.slice A9 L.length c9) L.length (L.map Rw.v) := by rw [hL] at ho ⊢; exact ho
  have hOc := hOa4.fr0 fc
  have M : KM w1 wc wc (.slice A9 L.length c9) L (fun j => (L.getD j zB).xs) := ⟨fun j hj => by
    simp only [List.getD_eq_getElem?_getD, List.getElem?_eq_getElem hj, Option.getD_some]
    exact (hOc.rows L[j] (hrb _ (List.getElem_mem hj))).1, ho, fun g hg => by have := hlv g hg; omega, Fr.refl _ _⟩
  have h0c := h0b.tr fc
  have k3 := k3.fr0 fc
  have k5 := k5.fr0 fc
  have k7 := k7.fr0 fc
  have hOb := hOb.fr0 fc
  have szc := fc.size
  clear ho k5c c hy ho9 kq9 fc
  obtain ⟨g9, rfl, hg9⟩ := own_at M.ls (i := 0) (by omega)
  refine sA [] rfl ?_
  refine ev_loop (α := Nat × (Nat → List Int8)) (fun z => [(0, .string (sOf s)), (3, ptA p3 0), (5, ptA p5 0), (7, ptA p7 0), (9, .slice (some ⟨g9, 0, none⟩) L.length c9), (12, i64 z.1)])
    (fun z w' => z.1 ≤ L.length ∧ KM w1 wc w' (.slice (some ⟨g9, 0, none⟩) L.length c9) L z.2 ∧ Mk L z.1 0 z.2) (fun z => L.length - z.1) (0, fun j => (L.getD j zB).xs) ⟨rfl, rfl, rfl, rfl, (by show some (Value.slice _ (6 + 9 * a.bs.length) c9) = _; rw [hLl]), rfl, trivial⟩ ⟨Nat.zero_le _, M, fun j t hj ht hc => by omega⟩ ?_
  clear M
  rintro ⟨i, X⟩ wi ⟨hi, M, hM⟩
  have hi : i ≤ L.length := hi
  simp only at M hM
  refine sC [] rfl ?_; refine sC [] rfl ?_
  refine ev_condD rfl (fun c => ?_) (fun c => ?_)
  · have hil : i < L.length := by omega
    obtain ⟨r, hr⟩ : ∃ r, r = L[i] := ⟨_, rfl⟩
    have hrs : r.xs.length ≤ 100000 := hxl r (hrb r (by rw [hr]; exact List.getElem_mem hil))
    refine sA [] rfl ?_
    refine ev_loop (α := Nat × (Nat → List Int8)) (fun z => [(0, .string (sOf s)), (3, ptA p3 0), (5, ptA p5 0), (7, ptA p7 0), (9, .slice (some ⟨g9, 0, none⟩) L.length c9), (12, i64 i), (13, i64 z.1)])
      (fun z w' => z.1 ≤ r.xs.length ∧ KM w1 wc w' (.slice (some ⟨g9, 0, none⟩) L.length c9) L z.2 ∧ Mk L i z.1 z.2) (fun z => r.xs.length - z.1) (0, X) ⟨rfl, rfl, rfl, rfl, rfl, rfl, rfl, trivial⟩ ⟨Nat.zero_le _, M, hM⟩ ?_
    clear M hM
    rintro ⟨k, X⟩ wk ⟨hk, M, hM⟩
    have hk : k ≤ r.xs.length := hk
    simp only at M hM
    have hcell : wk.cell? ⟨g9, 0 + (i : Int).toNat * 1, none⟩ = some r.v := by
      rw [show 0 + (i : Int).toNat * 1 = 0 + i by omega]
      exact (own_cs M.ls).at (by rw [List.getElem?_map, List.getElem?_eq_getElem hil, hr]; rfl)
    refine sA [] rfl ?_
    refine ev_indexAddr rfl rfl tabOk rfl rfl rfl (by omega) (by omega) ?_
    refine ev_load rfl rfl tabOk rfl rfl ‹_› ?_; refine sD [] rfl ?_; refine sD [] rfl ?_; refine sD [] rfl ?_
    refine ev_condD rfl (fun c2 => ?_) (fun c2 => ?_)
    · have hkr : k < r.xs.length := by have c2 : (k : Int) < (r.xs.length : Int) := c2; omega
      have hrow := M.row i hil
      have hlen := M.len hil
      rw [← hr] at hrow hlen
      obtain ⟨gr, hgA, hgo⟩ := own_at hrow hkr
      refine sA [] rfl ?_
      refine ev_indexAddr rfl rfl tabOk rfl rfl rfl (by omega) (by omega) ?_
      refine ev_load rfl rfl tabOk rfl rfl ‹_› ?_; refine sA [] rfl ?_; refine ev_conv rfl rfl tabOk rfl rfl rfl (by simp only [lowK, hiK]; omega) ?_
      refine ev_indexAddr rfl rfl tabOk (congrArg (fun z => some (Value.slice z r.xs.length r.c)) hgA) rfl rfl (by omega) (by omega) ?_
      refine ev_storeFlat tabOk rfl rfl rfl rfl rfl rfl hrow hgo (by omega) (fun w2 hO f2 => ?_)
      have hx : i8v (Int8.ofInt i) = .int .i8 (i : Int) := by show Value.int .i8 _ = _; rw [mk_val (by omega)]
      rw [← hx, show 0 + (k : Int).toNat * 1 = k by omega] at hO
      have M := M.store hN (i := i) (k := k) (x := Int8.ofInt i) hil (by rw [← hr]; exact hgo) (by rw [← hr]; exact hO) f2
      have hM := hM.step hil (by rw [← hr]; exact hkr) (by rw [← hr]; exact hlen)
      refine sA [] rfl ?_; refine ev_arith rfl rfl rfl rfl rfl (by simp only [lowK, hiK]; omega) ?_; refine sA [] rfl ?_
      exact ev_next (k + 1, fun j => if j = i then (X i).set k (Int8.ofInt i) else X j) (by show r.xs.length - (k + 1) < r.xs.length - k; omega) ⟨by show k + 1 ≤ _; omega, M, hM⟩ ⟨rfl, rfl, rfl, rfl, rfl, rfl, by show _ = some (i64 ((k + 1 : Nat) : Int)); rw [show ((k + 1 : Nat) : Int) = (k : Int) + 1 by omega]; rfl, trivial⟩
    have hkr : k = (L[i]).xs.length := by rw [← hr]; have c2 : ¬ (k : Int) < (r.xs.length : Int) := c2; omega
    rw [hkr] at hM
    have hM := hM.next hil
    refine sA [] rfl ?_; refine ev_arith rfl rfl rfl rfl rfl (by simp only [lowK, hiK]; omega) ?_; refine sA [] rfl ?_
    exact ev_next (i + 1, X) (by show L.length - (i + 1) < L.length - i; omega) ⟨by show i + 1 ≤ _; omega, M, hM⟩ ⟨rfl, rfl, rfl, rfl, rfl, by show _ = some (i64 ((i + 1 : Nat) : Int)); rw [show ((i + 1 : Nat) : Int) = (i : Int) + 1 by omega]; rfl, trivial⟩
  have hin : i = L.length := by have c : ¬ (i : Int) < (L.length : Int) := c; omega
  subst hin
  clear c hi
  refine sA [] rfl ?_
  have hKr : ∀ {w' : World} {X : Nat → List Int8}, KM w1 wc w' (.slice (some ⟨g9, 0, none⟩) L.length c9) L X → ∀ {i : Nat} (hil : i < L.length), w'.cell? ⟨g9, 0 + (i : Int).toNat * 1, none⟩ = some (L[i]).v := fun M i hil => by
    rw [show 0 + (i : Int).toNat * 1 = 0 + i by omega]
    exact (own_cs M.ls).at (by rw [List.getElem?_map, List.getElem?_eq_getElem hil]; rfl)
  refine ev_loop (α := Nat) (fun i => [(0, .string (sOf s)), (3, ptA p3 0), (5, ptA p5 0), (7, ptA p7 0), (9, .slice (some ⟨g9, 0, none⟩) L.length c9), (14, i64 i)])
    (fun i w' => i ≤ L.length ∧ KM w1 wc w' (.slice (some ⟨g9, 0, none⟩) L.length c9) L X) (fun i => L.length - i) 0 ⟨rfl, rfl, rfl, rfl, rfl, rfl, trivial⟩ ⟨Nat.zero_le _, M⟩ ?_
  clear M
  rintro i wi ⟨hi, M⟩
  refine sC [] rfl ?_; refine sC [] rfl ?_
  refine ev_condD rfl (fun c => ?_) (fun c => ?_)
  · have hil : i < L.length := by omega
    have hcell := hKr M hil
    obtain ⟨r, hr⟩ : ∃ r, r = L[i] := ⟨_, rfl⟩
    rw [← hr] at hcell
    refine sA [] rfl ?_
    refine ev_indexAddr rfl rfl tabOk rfl rfl rfl (by omega) (by omega) ?_
    refine ev_load rfl rfl tabOk rfl rfl ‹_› ?_; refine sA [] rfl ?_
    have hrow := M.row i hil
    have hrO := hN.rows L[i] (List.getElem_mem hil)
    rw [← hr] at hrow hrO
    have hrl := (hrb r (by rw [hr]; exact List.getElem_mem hil))
    have hrs : r.xs.length ≤ 100000 := hxl r hrl
    refine ev_loop (α := Nat × Value × List Value) (fun z => [(0, .string (sOf s)), (3, ptA p3 0), (5, ptA p5 0), (7, ptA p7 0), (9, .slice (some ⟨g9, 0, none⟩) L.length c9), (14, i64 i), (15, z.2.1), (16, i64 z.1)])
      (fun z w' => z.1 ≤ 20 ∧ KM w1 wc w' (.slice (some ⟨g9, 0, none⟩) L.length c9) L X ∧ Own w' 60 1 z.2.1 (r.xs.length + z.1) z.2.2 ∧ ∀ g, z.2.1.ownBlock = some g → r.v.ownBlock = some g ∨ wc.heap.size ≤ g) (fun z => 20 - z.1) (0, r.v, _) ⟨rfl, rfl, rfl, rfl, rfl, rfl, rfl, rfl, trivial⟩ ⟨Nat.zero_le _, M, hrow, fun g hg => .inl hg⟩ ?_
    clear M hrow hcell
    rintro ⟨k, gv, xs⟩ wk ⟨hk, M, ho, hgv⟩
    have hk : k ≤ 20 := hk
    simp only at ho hgv
    refine sC [] rfl ?_; refine sD [] rfl ?_; refine sD [] rfl ?_
    refine ev_condD rfl (fun c2 => ?_) (fun c2 => ?_)
    · have hk2 : k < 20 := by have c2 : (k : Int) < 20 := c2; omega
      obtain ⟨Ag, cg, rfl, _, _⟩ := ho.slice
      refine sA [] rfl ?_
      refine ev_append1K tabOk rfl rfl (fun _ => rfl) rfl rfl inf60 rfl (by omega) (fun _ => rfl) rfl rfl (by simp [Value.cells]) (by simp [flatV, Value.cells, Value.oneCell']) rfl ho (by omega) (fun gv9 w9 q9' ho9 hf9 hn9 hK9 => ?_)
      have hsk := M.fr.size
      have hfr : Fr (rb L) wc w9 := M.fr.trans hf9 fun z hz e => by
        rcases hgv z e with h | h
        · exact ⟨r, by rw [hr]; exact List.getElem_mem hil, h⟩
        · omega
      have M : KM w1 wc w9 (.slice (some ⟨g9, 0, none⟩) L.length c9) L X := by
        refine ⟨fun j hj => ?_, M.ls.fr hf9 (fun z hz e => ?_), M.lg, hfr⟩
        · by_cases e : j = i
          · subst e
            have h := hK9 _ _ _ (M.row j hj) (by rw [← hr]; omega)
            exact h
          · refine (M.row j hj).fr hf9 fun z hz y => ?_
            rcases hgv z y with h | h
            · exact ap_at hN hil hj (fun z => e z.symm) (by rw [← hr]; exact h) hz
            · have := (hN.rows L[j] (List.getElem_mem hj)).lt hz
              omega
        · exact own_apart2 M.ls ho (by decide) z hz e
      refine sA [] rfl ?_; refine ev_arith rfl rfl rfl rfl rfl (by simp only [lowK, hiK]; omega) ?_; refine sA [] rfl ?_
      refine ev_next (k + 1, gv9, xs ++ flatV [.int .i8 77]) (by show 20 - (k + 1) < 20 - k; omega) ⟨by show k + 1 ≤ 20; omega, M, ho9, fun g hg => ?_⟩ ⟨rfl, rfl, rfl, rfl, rfl, rfl, rfl, by show _ = some (i64 ((k + 1 : Nat) : Int)); rw [show ((k + 1 : Nat) : Int) = (k : Int) + 1 by omega]; rfl, trivial⟩
      rcases hn9 g hg with h | h
      · exact hgv g h
      · exact .inr (by omega)
    refine sA [] rfl ?_; refine ev_arith rfl rfl rfl rfl rfl (by simp only [lowK, hiK]; omega) ?_; refine sA [] rfl ?_
    exact ev_next (i + 1) (by omega) ⟨by omega, M⟩ ⟨rfl, rfl, rfl, rfl, rfl, by show _ = some (i64 ((i + 1 : Nat) : Int)); rw [show ((i + 1 : Nat) : Int) = (i : Int) + 1 by omega]; rfl, trivial⟩
  clear c hi
  refine sA [] rfl ?_
  refine ev_loop (α := Nat) (fun i => [(0, .string (sOf s)), (3, ptA p3 0), (5, ptA p5 0), (7, ptA p7 0), (9, .slice (some ⟨g9, 0, none⟩) L.length c9), (17, i64 i)])
    (fun i w' => i ≤ L.length ∧ wi = w') (fun i => L.length - i) 0 ⟨rfl, rfl, rfl, rfl, rfl, rfl, trivial⟩ ⟨Nat.zero_le _, rfl⟩ ?_
  rintro i w' ⟨hi, rfl⟩
  refine sC [] rfl ?_; refine sC [] rfl ?_
  refine ev_condD rfl (fun c => ?_) (fun c => ?_)
  · have hil : i < L.length := by omega
    have hcell := hKr M hil
    have hrow := M.row i hil
    have hlen := M.len hil
    have hmk : ∀ k, k < (L[i]).xs.length → (X i)[k]? = some (Int8.ofInt i) := fun k hk => hM i k hil hk (.inl hil)
    obtain ⟨r, hr⟩ : ∃ r, r = L[i] := ⟨_, rfl⟩
    have hrs : r.xs.length ≤ 100000 := hxl r (hrb r (by rw [hr]; exact List.getElem_mem hil))
    rw [← hr] at hcell hrow hlen hmk
    refine sA [] rfl ?_
    refine ev_loop (α := Nat) (fun k => [(0, .string (sOf s)), (3, ptA p3 0), (5, ptA p5 0), (7, ptA p7 0), (9, .slice (some ⟨g9, 0, none⟩) L.length c9), (17, i64 i), (18, i64 k)])
      (fun k w' => k ≤ r.xs.length ∧ wi = w') (fun k => r.xs.length - k) 0 ⟨rfl, rfl, rfl, rfl, rfl, rfl, rfl, trivial⟩ ⟨Nat.zero_le _, rfl⟩ ?_
    rintro k w2 ⟨hk, rfl⟩
    refine sA [] rfl ?_
    refine ev_indexAddr rfl rfl tabOk rfl rfl rfl (by omega) (by omega) ?_
    refine ev_load rfl rfl tabOk rfl rfl ‹_› ?_; refine sD [] rfl ?_; refine sD [] rfl ?_; refine sD [] rfl ?_
    refine ev_condD rfl (fun c2 => ?_) (fun c2 => ?_)
    · have hkr : k < r.xs.length := by have c2 : (k : Int) < (r.xs.length : Int) := c2; omega
      obtain ⟨gr, hgA, hgo⟩ := own_at hrow hkr
      have hcr := own_cs hrow
      rw [hgA] at hcr
      have hcell2 : wi.cell? ⟨gr, 0 + (k : Int).toNat * 1, none⟩ = some (.int .i8 (i : Int)) := by
        rw [show 0 + (k : Int).toNat * 1 = 0 + k by omega]
        refine hcr.at ?_
        rw [List.getElem?_map, hmk k hkr]
        show some (Value.int .i8 _) = _
        rw [mk_val (by omega)]
      refine sA [] rfl ?_
      refine ev_indexAddr rfl rfl tabOk rfl rfl rfl (by omega) (by omega) ?_
      refine ev_load rfl rfl tabOk rfl rfl ‹_› ?_; refine sA [] rfl ?_
      refine ev_indexAddr rfl rfl tabOk (congrArg (fun z => some (Value.slice z r.xs.length r.c)) hgA) rfl rfl (by omega) (by omega) ?_
      refine ev_load rfl rfl tabOk rfl rfl ‹_› ?_; refine sA [] rfl ?_; refine ev_conv rfl rfl tabOk rfl rfl rfl (by simp only [lowK, hiK]; omega) ?_; refine sD [] rfl ?_; refine sD [] rfl ?_
      refine ev_condD rfl (fun h => absurd rfl h) (fun _ => ?_)
      refine sA [] rfl ?_; refine ev_arith rfl rfl rfl rfl rfl (by simp only [lowK, hiK]; omega) ?_; refine sA [] rfl ?_
      exact ev_next (k + 1) (by omega) ⟨by omega, rfl⟩ ⟨rfl, rfl, rfl, rfl, rfl, rfl, by show _ = some (i64 ((k + 1 : Nat) : Int)); rw [show ((k + 1 : Nat) : Int) = (k : Int) + 1 by omega]; rfl, trivial⟩
    refine sA [] rfl ?_; refine ev_arith rfl rfl rfl rfl rfl (by simp only [lowK, hiK]; omega) ?_; refine sA [] rfl ?_
    exact ev_next (i + 1) (by omega) ⟨by omega, rfl⟩ ⟨rfl, rfl, rfl, rfl, rfl, by show _ = some (i64 ((i + 1 : Nat) : Int)); rw [show ((i + 1 : Nat) : Int) = (i : Int) + 1 by omega]; rfl, trivial⟩
  -- texts and merges
  have hnt : ∀ g, (Value.slice a.tA a.V.texts.length a.tc).ownBlock = some g → ¬ rb L g := fun g hg ⟨r, hr, e⟩ => (hOa.ge g (.inl hg)).2 r (hrb r hr) e
  have hnm : ∀ g, (Value.slice a.mA a.V.merges.length a.mc).ownBlock = some g → ¬ rb L g := fun g hg ⟨r, hr, e⟩ => (hOa.ge g (.inr (.inl hg))).2 r (hrb r hr) e
  have hTx := hOc.txt.fr M.fr hnt
  have hMg := hOc.mrg.fr M.fr hnm
  have hrg : Fr (rg w0 w1) wc wi := M.fr.mono fun c _ ⟨r, hr, e⟩ => ⟨(hN.rows r hr).2 c e, (hN.rows r hr).lt e⟩
  have htl2 : a.V.texts.length ≤ 512 := by
    have h := hsq.tx
    rw [show (Y, e).1 = a.p from hap.symm] at h; exact h
  have hml2 : a.V.merges.length ≤ 1024 := by
    have h := hsq.mg
    rw [show (Y, e).1 = a.p from hap.symm] at h; exact h
  have hp5 : ¬ rg w0 w1 p5 := fun e => by have := e.2; have := hp5; omega
  clear hM M hKr c hi hg9 hlv
  refine sA [] rfl ?_
  refine ev_loop (α := Nat × List Value) (fun z => [(0, .string (sOf s)), (3, ptA p3 0), (5, ptA p5 0), (7, ptA p7 0), (19, i64 z.1)])
    (fun z w' => z.1 ≤ a.V.texts.length ∧ Fr (rg w0 w1) wc w' ∧ Own w' 9 1 (.slice a.tA a.V.texts.length a.tc) a.V.texts.length z.2 ∧ Own w' 62 3 (.slice a.mA a.V.merges.length a.mc) a.V.merges.length (mcs a.V.merges)) (fun z => a.V.texts.length - z.1) (0, _) ⟨rfl, rfl, rfl, rfl, rfl, trivial⟩ ⟨Nat.zero_le _, hrg, hTx, hMg⟩ ?_
  clear hrg hTx hMg
  rintro ⟨i, cs⟩ wi ⟨hi, hrg, hTx, hMg⟩
  have hi : i ≤ a.V.texts.length := hi
  simp only at hTx
  have k5i := k5.fr hrg hp5
  refine sA [] rfl ?_; refine ev_loadB rfl rfl tabOk rfl rfl ‹_› (by rfl) ?_; refine sD [] rfl ?_; refine sD [] rfl ?_; refine sD [] rfl ?_
  refine ev_condD rfl (fun c => ?_) (fun c => ?_)
  · have hil : i < a.V.texts.length := by have c : (i : Int) < (a.V.texts.length : Int) := c; omega
    obtain ⟨gt, hgA, hgo⟩ := own_at hTx hil
    refine sA [] rfl ?_; refine ev_loadB rfl rfl tabOk rfl rfl ‹_› (by rfl) ?_; refine sA [] rfl ?_
    refine ev_indexAddr rfl rfl tabOk (congrArg (fun z => some (Value.slice z a.V.texts.length a.tc)) hgA) rfl rfl (by omega) (by omega) ?_
    refine ev_storeFlat tabOk rfl rfl rfl rfl rfl rfl hTx hgo (by omega) (fun w2 hO f2 => ?_)
    refine sA [] rfl ?_; refine ev_arith rfl rfl rfl rfl rfl (by simp only [lowK, hiK]; omega) ?_; refine sA [] rfl ?_
    exact ev_next (i + 1, cs.set (0 + (i : Int).toNat * 1) (.string (sOf [109, 97, 114, 107]))) (by show a.V.texts.length - (i + 1) < a.V.texts.length - i; omega) ⟨by show i + 1 ≤ _; omega, hrg.trans f2 fun z hz e => by
        have e : z = gt := e
        rw [e]
        exact ⟨(hOa.ge gt (.inl hgo)).1, hOa.txt.lt hgo⟩, hO, hMg.fr f2 fun g hg e => by
        have e : g = gt := e
        rw [e] at hg
        exact (hOa.tm gt hgo).1 hg⟩ ⟨rfl, rfl, rfl, rfl, by show _ = some (i64 ((i + 1 : Nat) : Int)); rw [show ((i + 1 : Nat) : Int) = (i : Int) + 1 by omega]; rfl, trivial⟩
  clear c hi hTx k5i
  refine sA [] rfl ?_
  refine ev_loop (α := Nat × List Value) (fun z => [(0, .string (sOf s)), (3, ptA p3 0), (5, ptA p5 0), (7, ptA p7 0), (20, i64 z.1)])
    (fun z w' => z.1 ≤ a.V.merges.length ∧ Fr (rg w0 w1) wc w' ∧ Own w' 62 3 (.slice a.mA a.V.merges.length a.mc) a.V.merges.length z.2) (fun z => a.V.merges.length - z.1) (0, _) ⟨rfl, rfl, rfl, rfl, rfl, trivial⟩ ⟨Nat.zero_le _, hrg, hMg⟩ ?_
  clear hrg hMg
  rintro ⟨i, cs⟩ wi ⟨hi, hrg, hMg⟩
  have hi : i ≤ a.V.merges.length := hi
  simp only at hMg
  have k5i := k5.fr hrg hp5
  refine sA [] rfl ?_; refine ev_loadB rfl rfl tabOk rfl rfl ‹_› (by rfl) ?_; refine sD [] rfl ?_; refine sD [] rfl ?_; refine sD [] rfl ?_
  refine ev_condD rfl (fun c => ?_) (fun c => ?_)
  · have hil : i < a.V.merges.length := by have c : (i : Int) < (a.V.merges.length : Int) := c; omega
    obtain ⟨gt, hgA, hgo⟩ := own_at3 hMg hil
    refine sA [] rfl ?_; refine ev_loadB rfl rfl tabOk rfl rfl ‹_› (by rfl) ?_; refine sA [] rfl ?_
    refine ev_indexAddr rfl rfl tabOk (congrArg (fun z => some (Value.slice z a.V.merges.length a.mc)) hgA) rfl rfl (by omega) (by omega) ?_
    refine sA [] rfl ?_
    refine ev_storeFlat tabOk rfl rfl rfl rfl rfl rfl hMg hgo (by show 0 + (i : Int).toNat * 3 + 2 < a.V.merges.length * 3; omega) (fun w2 hO f2 => ?_)
    refine sA [] rfl ?_; refine ev_arith rfl rfl rfl rfl rfl (by simp only [lowK, hiK]; omega) ?_; refine sA [] rfl ?_
    exact ev_next (i + 1, cs.set (0 + (i : Int).toNat * 3 + 2) (i64 (-7))) (by show a.V.merges.length - (i + 1) < a.V.merges.length - i; omega) ⟨by show i + 1 ≤ _; omega, hrg.trans f2 fun z hz e => by
        have e : z = gt := e
        rw [e]
        exact ⟨(hOa.ge gt (.inr (.inl hgo))).1, hOa.mrg.lt hgo⟩, hO⟩ ⟨rfl, rfl, rfl, rfl, by show _ = some (i64 ((i + 1 : Nat) : Int)); rw [show ((i + 1 : Nat) : Int) = (i : Int) + 1 by omega]; rfl, trivial⟩
  clear c hi hMg k5i
  have hf0 : Fr no w0 wi := h0c.trans hrg fun z hz e => by have := e.1; omega
  have k3 := k3.fr hrg (fun e => by have := e.1; omega)
  have k7 := k7.fr hrg (fun e => by have := e.2; omega)
  have hbA := hOb.keep hrg (fun c hc e => by have := e.2; omega)
  have htA := ht0.fr0 hf0
  refine sA [] rfl ?_
  refine ev_call rfl rfl rfl (hwd wi) ?_
  rintro r wj ⟨c, rfl, hcp, hOc2⟩
  have hcl := hsm c hcp
  refine sA [] rfl ?_
  refine ev_alloc rfl rfl inf31 (fun p21 wu hp21 k21 fu => ?_)
  refine ev_storeAgg tabOk rfl rfl rfl rfl rfl rfl k21 rfl (fun wv k210 fv => ?_)
  have hjv : Fr no wj wv := fu.trans fv fun z hz e => by have : z = p21 := e; omega
  have k21 : Blk wv p21 (lmC c) 31 := k210
  clear k210
  have hiv := hOc2.fr.tr hjv
  have k3 := k3.fr0 hiv
  have k7 := k7.fr0 hiv
  have hbA := hbA.fr0 hiv
  have htA := htA.fr0 hiv
  have hcA := hOc2.At.fr0 hjv
  have hFv := (hF.tr hf0).tr hiv
  refine sA [] rfl ?_
  refine mixC_in (fun w' => Fr no wv w') mixed (fun v g => ?_)
  refine m_loadAgg 0 rfl rfl rfl (by kernel_rfl) (by kernel_rfl) rfl rfl tabOk rfl rfl rfl (fun w' h => Cs.of_blk (k7.fr0 h)) ?_
  refine m_loadAgg 2 rfl rfl rfl (by kernel_rfl) (by kernel_rfl) rfl rfl tabOk rfl rfl rfl (fun w' h => Cs.of_blk (k3.fr0 h)) ?_
  refine mix1 rfl rfl ?_ g
  refine ev_call rfl rfl rfl (refOf b v (hbA.fr0 g) hbl) ?_
  rintro r v2 ⟨u1, rfl, hup1, hOu1⟩
  have g := g.tr hOu1.fr
  refine mix_op ?_
  refine mix1 rfl rfl ?_ g
  refine ev_call rfl rfl rfl (refSameM u1 t v2 hOu1.At (htA.fr0 g) (Sm_p hup1 hbl) htl) ?_
  rintro r v3 ⟨rfl, g3⟩
  rw [eqB_t (show u1.p = t.p by rw [hup1, hbp, htp])]
  have g := g.tr g3
  refine mix_op ?_
  refine mA rfl (by kernel_rfl) (by kernel_rfl) ?_
  refine m_loadAgg 5 rfl rfl rfl (by kernel_rfl) (by kernel_rfl) rfl rfl tabOk rfl rfl rfl (fun w' h => Cs.of_blk (k21.fr0 h)) ?_
  refine m_loadAgg 7 rfl rfl rfl (by kernel_rfl) (by kernel_rfl) rfl rfl tabOk rfl rfl rfl (fun w' h => Cs.of_blk (k3.fr0 h)) ?_
  refine mix1 rfl rfl ?_ g
  refine ev_call rfl rfl rfl (refOf c v3 (hcA.fr0 g) hcl) ?_
  rintro r v4 ⟨u2, rfl, hup2, hOu2⟩
  have g := g.tr hOu2.fr
  refine mix_op ?_
  refine mix1 rfl rfl ?_ g
  refine ev_call rfl rfl rfl (refSameM u2 t v4 hOu2.At (htA.fr0 g) (Sm_p hup2 hcl) htl) ?_
  rintro r v5 ⟨rfl, g5⟩
  rw [eqB_t (show u2.p = t.p by rw [hup2, hcp, htp])]
  have g := g.tr g5
  refine mix_op ?_
  refine mA rfl (by kernel_rfl) (by kernel_rfl) ?_
  refine mix_out rfl ?_ g
  refine sA [] rfl ?_
  exact ret1 (.inr rfl) rfl rfl ⟨rfl, hFv.tr g⟩
end Go.Wk.Ytdelgnflcfhhkaa
