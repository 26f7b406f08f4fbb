/-
  Chapter 16: the law ShapeMakes.
-/
import Derived.Test.YtfgllkflnkolhaaDoorShYh
set_option linter.unusedVariables false
namespace Go.Wk.YtfgllkflnkolhaaDoor
open Go Go.Wk Go.Proofs

/-- a model's rows are as long as this -/
structure LenQ (d h : Nat) (b : Bk (List Int8)) : Prop where
  g1 : b.g1.length = d
  q : b.q.length = d * d
  k : b.k.length = d * d
  v : b.v.length = d * d
  o : b.o.length = d * d
  g2 : b.g2.length = d
  ga : b.ga.length = h * d
  up : b.up.length = h * d
  dn : b.dn.length = d * h
theorem lenQ_blkF (d h st : Nat) : LenQ d h (blkF d h st) := by
  unfold blkF
  exact ⟨gain_len _, rowQ_len _ _, rowQ_len _ _, rowQ_len _ _, rowQ_len _ _, gain_len _, rowQ_len _ _, rowQ_len _ _, rowQ_len _ _⟩
theorem num_eq (n c d l h q : Nat) (k : Int) (o : okS ⟨n, c, d, k, l, h⟩) (hq : halfS ⟨n, c, d, k, l, h⟩ = q) :
    ((n * d + c * q + c * q + 256 + d + n * d + l * (d + d * d + d * d + d * d + d * d + d + h * d + h * d + d * h) : Nat) : Int) = numS ⟨n, c, d, k, l, h⟩ := by
  unfold numS
  rw [if_pos o, hq]
  simp only [Int.natCast_add, Int.natCast_mul]
  grind
theorem Room_of {TM TB : TypeId} {w0 w : World} {m : LM} (h : OwnM TM TB w0 w m) : ∀ r ∈ m.all, r.xs.length ≤ r.c := fun r hr => own_cap (h.rows r hr).1
theorem Sm_sample {m : LM} {s : Shp} {seed : Int} (h : m.p = sampleP s seed) (o : okS s) : m.Sm := by
  have o' := o
  have hh := half_bd o
  obtain ⟨⟨a1, a2⟩, ⟨b1, b2⟩, ⟨d1, d2⟩, k1, k2, k3, ⟨e1, e2⟩, f1, f2⟩ := o
  have b1 : s.voc.toNat * s.dim.toNat ≤ 512 * 64 := Nat.mul_le_mul (by omega) (by omega)
  have b2 : s.ctx.toNat * (halfS s).toNat ≤ 512 * 32 := Nat.mul_le_mul (by omega) (by omega)
  have b3 : s.dim.toNat * s.dim.toNat ≤ 64 * 64 := Nat.mul_le_mul (by omega) (by omega)
  have b4 : s.hid.toNat * s.dim.toNat ≤ 256 * 64 := Nat.mul_le_mul (by omega) (by omega)
  have b5 : s.dim.toNat * s.hid.toNat ≤ 64 * 256 := Nat.mul_le_mul (by omega) (by omega)
  have e : ∀ f : Md → List Int8, f m.p = f (sampleP s seed) := fun f => by rw [h]
  have hb : m.bs.map pBk = (sampleP s seed).bs := congrArg Md.bs h
  have hl : m.bs.length = s.lay.toNat := by rw [lm_bl h]; exact layF_len _ _ _ _
  refine ⟨fun r hr => ?_, fun b hb' => ?_, by omega, by rw [show m.V = (sampleP s seed).V from congrArg Md.V h]; exact sample_VS seed o'⟩
  · simp only [List.mem_cons, List.not_mem_nil, or_false] at hr
    rcases hr with rfl | rfl | rfl | rfl | rfl | rfl
    · rw [show m.e.xs = _ from e Md.e]; exact Nat.le_trans (Nat.le_of_eq (rowQ_len _ _)) (by omega)
    · rw [show m.cos.xs = _ from e Md.cos]; exact Nat.le_trans (Nat.le_of_eq (cosF_len _ _)) (by omega)
    · rw [show m.sin.xs = _ from e Md.sin]; exact Nat.le_trans (Nat.le_of_eq (sinF_len _ _)) (by omega)
    · rw [show m.bend.xs = _ from e Md.bend]; exact Nat.le_trans (Nat.le_of_eq (bendF_len 256)) (by omega)
    · rw [show m.gain.xs = _ from e Md.gain]; exact Nat.le_trans (Nat.le_of_eq (gain_len _)) (by omega)
    · rw [show m.un.xs = _ from e Md.un]; exact Nat.le_trans (Nat.le_of_eq (rowQ_len _ _)) (by omega)
  · have hm : pBk b ∈ (sampleP s seed).bs := by rw [← hb]; exact List.mem_map_of_mem hb'
    obtain ⟨st, e0⟩ := layF_mem hm
    have z := lenQ_blkF s.dim.toNat s.hid.toNat st
    rw [← e0] at z
    intro r hr
    simp only [List.mem_cons, List.not_mem_nil, or_false] at hr
    rcases hr with rfl | rfl | rfl | rfl | rfl | rfl | rfl | rfl | rfl
    · exact Nat.le_trans (Nat.le_of_eq z.g1) (by omega)
    · exact Nat.le_trans (Nat.le_of_eq z.g2) (by omega)
    · exact Nat.le_trans (Nat.le_of_eq z.q) (by omega)
    · exact Nat.le_trans (Nat.le_of_eq z.k) (by omega)
    · exact Nat.le_trans (Nat.le_of_eq z.v) (by omega)
    · exact Nat.le_trans (Nat.le_of_eq z.o) (by omega)
    · exact Nat.le_trans (Nat.le_of_eq z.ga) (by omega)
    · exact Nat.le_trans (Nat.le_of_eq z.up) (by omega)
    · exact Nat.le_trans (Nat.le_of_eq z.dn) (by omega)
set_option maxHeartbeats 8000000 in
theorem lawMakes (s : Shp) (seed : Int) (w : World) (hT : QT w) (hseed : -9223372036854775808 ≤ seed ∧ seed ≤ 9223372036854775807) :
    CallsF Tryd.prog 9 [shpV s, i64 seed] w fun r w' => r = .bool true ∧ Fr no w w' := by
  refine callsF Tryd.func9 rfl rfl (by decide) rfl ?_
  refine sA [] rfl ?_
  refine ev_box rfl rfl rfl fun p w1 hp kp f1 => ?_
  have kp : Blk w1 p (shpC s) 23 := kp
  refine sA [] rfl ?_
  refine ev_call rfl rfl rfl (lAwake w1 (hT.fr0 f1)) ?_
  rintro r w2 ⟨rfl, f2⟩
  have kp := kp.fr0 f2
  have hF := f1.tr f2
  refine sA [] rfl ?_; refine ev_loadAggB rfl rfl tabOk rfl rfl ‹_› (by rfl) ?_; refine sA [] rfl ?_
  by_cases o : okS s
  rotate_left
  · refine ev_call rfl rfl rfl (wSampleNo s seed w2 o) ?_
    rintro r w3 ⟨rfl, f3⟩
    have kp := kp.fr0 f3
    have hF := hF.tr f3
    refine sA [] rfl ?_
    refine ev_alloc rfl rfl inf51 (fun q w4 hq kq f4 => ?_)
    refine ev_storeAgg tabOk rfl rfl rfl rfl rfl rfl kq rfl (fun w5 kq5 f5 => ?_)
    have h35 : Fr no w3 w5 := f4.trans f5 fun z hz e => by have : z = q := e; omega
    have kp := kp.fr0 h35
    have hF := hF.tr h35
    clear kq
    refine sA [] rfl ?_; refine ev_loadAggB rfl rfl tabOk rfl rfl ‹_› (by rfl) ?_
    refine ev_call rfl rfl rfl (wNum s w5) ?_
    rintro r w6 ⟨rfl, f6⟩
    have kp := kp.fr0 f6
    have hF := hF.tr f6
    rw [chk_n o, show numS s = 0 from if_neg o]
    refine sA [] rfl ?_; refine ev_loadAggB rfl rfl tabOk rfl rfl ‹_› (by rfl) ?_
    refine ev_call rfl rfl rfl (wChk s w6) ?_
    rintro r w7 ⟨rfl, f7⟩
    rw [chk_n o]
    refine sA [] rfl ?_
    exact ret1 (.inr rfl) rfl rfl ⟨rfl, hF.tr f7⟩
  refine ev_call rfl rfl rfl (wSample s seed w2 o hseed (hT.fr0 hF)) ?_
  rintro r w3 ⟨m, rfl, hmp, hO⟩
  have hsm := Sm_sample hmp o
  have kp := kp.fr0 hO.fr
  have hF := hF.tr hO.fr
  have hcap := hO.cap
  have hAt := hO.At
  clear hO
  refine sA [] rfl ?_
  refine ev_alloc rfl rfl inf51 (fun q w4 hq kq f4 => ?_)
  refine ev_storeAgg tabOk rfl rfl rfl rfl rfl rfl kq rfl (fun w5 kq5 f5 => ?_)
  have h35 : Fr no w3 w5 := f4.trans f5 fun z hz e => by have : z = q := e; omega
  have kp := kp.fr0 h35
  have hF := hF.tr h35
  have hAt := hAt.fr0 h35
  have kq : Blk w5 q (lmC m) 51 := kq5
  clear kq5
  refine sA [] rfl ?_; refine ev_loadAggB rfl rfl tabOk rfl rfl ‹_› (by rfl) ?_
  refine ev_call rfl rfl rfl (wNum s w5) ?_
  rintro r w6 ⟨rfl, f6⟩
  have kp := kp.fr0 f6
  have kq := kq.fr0 f6
  have hF := hF.tr f6
  have hAt := hAt.fr0 f6
  rw [chk_y o]
  refine sA [] rfl ?_; refine ev_loadAggB rfl rfl tabOk rfl rfl ‹_› (by rfl) ?_
  refine ev_call rfl rfl rfl (wChk s w6) ?_
  rintro r w7 ⟨rfl, f7⟩
  have kp := kp.fr0 f7
  have kq := kq.fr0 f7
  have hF := hF.tr f7
  have hAt := hAt.fr0 f7
  rw [chk_y o]
  refine sA [] rfl ?_; refine ev_loadAggB rfl rfl tabOk rfl rfl ‹_› (by rfl) ?_
  refine ev_call rfl rfl rfl (wValid m w7 hAt hsm.V hsm.bl hcap) ?_
  rintro r w8 ⟨rfl, f8⟩
  have kp := kp.fr0 f8
  have kq := kq.fr0 f8
  have hF := hF.tr f8
  have hAt := hAt.fr0 f8
  rw [hmp, sample_valid s seed o]
  refine sA [] rfl ?_
  refine ev_alloc rfl rfl inf63 (fun c w9 hc kc f9 => ?_)
  refine ev_storeAgg tabOk rfl rfl rfl rfl rfl rfl kc rfl (fun wa kc fa => ?_)
  have h8a : Fr no w8 wa := f9.trans fa fun z hz e => by have : z = c := e; omega
  have kp := kp.fr0 h8a
  have kq := kq.fr0 h8a
  have hF := hF.tr h8a
  have hAt := hAt.fr0 h8a
  refine sA [] rfl ?_; refine ev_loadAggB rfl rfl tabOk rfl rfl ‹_› (by rfl) ?_
  refine ev_build rfl rfl (v := .agg ⟨[i64 0, i64 0]⟩) rfl (fun w => by kernel_rfl) ?_
  refine ev_y rfl rfl (y_where_neq (m := (0, 0)) (m' := (0, 0)) rfl rfl) ?_
  rw [show (!decide (((0 : Int), (0 : Int)) = (0, 0))) = false from rfl]
  refine sA [] rfl ?_
  refine ev_loadAgg rfl rfl tabOk rfl rfl rfl (shp_part m kq) ?_
  refine ev_loadAggB rfl rfl tabOk rfl rfl ‹_› (by rfl) ?_
  refine ev_y rfl rfl (y_shpA_neq (m := m.s) (m' := s) rfl rfl) ?_
  have hms : m.s = s := congrArg Md.s hmp
  rw [show (!decide (m.s = s)) = false by rw [decide_eq_true hms]; rfl]
  have hh := half_bd o
  have o' := o
  obtain ⟨⟨a1, a2⟩, ⟨b1, b2⟩, ⟨d1, d2⟩, k1, k2, k3, ⟨e1, e2⟩, g1, g2⟩ := o
  have e : ∀ f : Md → List Int8, f m.p = f (sampleP s seed) := fun f => by rw [hmp]
  have hbs : m.bs.map pBk = (sampleP s seed).bs := congrArg Md.bs hmp
  have hbl : m.bs.length = s.lay.toNat := by rw [lm_bl hmp]; exact layF_len _ _ _ _
  have l1 : m.e.xs.length = s.voc.toNat * s.dim.toNat := by rw [show m.e.xs = _ from e Md.e]; exact rowQ_len _ _
  have l2 : m.cos.xs.length = s.ctx.toNat * (halfS s).toNat := by rw [show m.cos.xs = _ from e Md.cos]; exact cosF_len _ _
  have l3 : m.sin.xs.length = s.ctx.toNat * (halfS s).toNat := by rw [show m.sin.xs = _ from e Md.sin]; exact sinF_len _ _
  have l4 : m.bend.xs.length = 256 := by rw [show m.bend.xs = _ from e Md.bend]; exact bendF_len 256
  have l5 : m.gain.xs.length = s.dim.toNat := by rw [show m.gain.xs = _ from e Md.gain]; exact gain_len _
  have l6 : m.un.xs.length = s.voc.toNat * s.dim.toNat := by rw [show m.un.xs = _ from e Md.un]; exact rowQ_len _ _
  have q1 : s.voc.toNat * s.dim.toNat ≤ 512 * 64 := Nat.mul_le_mul (by omega) (by omega)
  have q2 : s.ctx.toNat * (halfS s).toNat ≤ 512 * 32 := Nat.mul_le_mul (by omega) (by omega)
  have q3 : s.dim.toNat * s.dim.toNat ≤ 64 * 64 := Nat.mul_le_mul (by omega) (by omega)
  have q4 : s.hid.toNat * s.dim.toNat ≤ 256 * 64 := Nat.mul_le_mul (by omega) (by omega)
  have q5 : s.dim.toNat * s.hid.toNat ≤ 64 * 256 := Nat.mul_le_mul (by omega) (by omega)
  have hnum : ((s.voc.toNat * s.dim.toNat + s.ctx.toNat * (halfS s).toNat + s.ctx.toNat * (halfS s).toNat + 256 + s.dim.toNat + s.voc.toNat * s.dim.toNat + s.lay.toNat * (s.dim.toNat + s.dim.toNat * s.dim.toNat + s.dim.toNat * s.dim.toNat + s.dim.toNat * s.dim.toNat + s.dim.toNat * s.dim.toNat + s.dim.toNat + s.hid.toNat * s.dim.toNat + s.hid.toNat * s.dim.toNat + s.dim.toNat * s.hid.toNat) : Nat) : Int) = numS s := by
    have hs' : s = ⟨(s.voc.toNat : Int), (s.ctx.toNat : Int), (s.dim.toNat : Int), s.hds, (s.lay.toNat : Int), (s.hid.toNat : Int)⟩ := by
      rw [Int.toNat_of_nonneg (by omega), Int.toNat_of_nonneg (by omega), Int.toNat_of_nonneg (by omega), Int.toNat_of_nonneg (by omega), Int.toNat_of_nonneg (by omega)]
    have h1 := num_eq s.voc.toNat s.ctx.toNat s.dim.toNat s.lay.toNat s.hid.toNat (halfS s).toNat s.hds (by rw [← hs']; exact o') (by rw [← hs', Int.toNat_of_nonneg (by omega)])
    rw [← hs'] at h1
    exact h1
  obtain ⟨B, hB⟩ : ∃ B : Nat, B = s.dim.toNat + s.dim.toNat * s.dim.toNat + s.dim.toNat * s.dim.toNat + s.dim.toNat * s.dim.toNat + s.dim.toNat * s.dim.toNat + s.dim.toNat + s.hid.toNat * s.dim.toNat + s.hid.toNat * s.dim.toNat + s.dim.toNat * s.hid.toNat := ⟨_, rfl⟩
  have hBb : B ≤ 100000 := by omega
  obtain ⟨Z, hZ⟩ : ∃ Z : Nat, Z = s.voc.toNat * s.dim.toNat + s.ctx.toNat * (halfS s).toNat + s.ctx.toNat * (halfS s).toNat + 256 + s.dim.toNat + s.voc.toNat * s.dim.toNat := ⟨_, rfl⟩
  have hZb : Z ≤ 200000 := by omega
  rw [← hB, ← hZ] at hnum
  refine sA [] rfl ?_; refine ev_loadB rfl rfl tabOk rfl rfl ‹_› (by rfl) ?_; refine sA [] rfl ?_; refine ev_loadB rfl rfl tabOk rfl rfl ‹_› (by rfl) ?_; refine sA [] rfl ?_; refine ev_arith rfl rfl rfl rfl rfl (by simp only [lowK, hiK]; omega) ?_; refine sA [] rfl ?_; refine ev_loadB rfl rfl tabOk rfl rfl ‹_› (by rfl) ?_; refine sA [] rfl ?_; refine ev_arith rfl rfl rfl rfl rfl (by simp only [lowK, hiK]; omega) ?_; refine sA [] rfl ?_; refine ev_loadB rfl rfl tabOk rfl rfl ‹_› (by rfl) ?_; refine sA [] rfl ?_; refine ev_arith rfl rfl rfl rfl rfl (by simp only [lowK, hiK]; omega) ?_; refine sA [] rfl ?_; refine ev_loadB rfl rfl tabOk rfl rfl ‹_› (by rfl) ?_; refine sA [] rfl ?_; refine ev_arith rfl rfl rfl rfl rfl (by simp only [lowK, hiK]; omega) ?_; refine sA [] rfl ?_; refine ev_loadB rfl rfl tabOk rfl rfl ‹_› (by rfl) ?_; refine sA [] rfl ?_; refine ev_arith rfl rfl rfl rfl rfl (by simp only [lowK, hiK]; omega) ?_; refine sA [] rfl ?_; refine ev_loadB rfl rfl tabOk rfl rfl ‹_› (by rfl) ?_; refine sA [] rfl ?_
  refine ev_loop (α := Nat) (fun y => [(2, .pointer (some ⟨p, 0, none⟩)), (5, .pointer (some ⟨q, 0, none⟩)), (7, i64 (numS s)), (85, .slice m.bA m.bs.length m.bc), (86, i64 m.bs.length), (87, i64 y), (10, i64 (Z + y * B : Nat))])
    (fun y w' => y ≤ m.bs.length ∧ Fr no w w' ∧ Blk w' p (shpC s) 23 ∧ Blk w' q (lmC m) 51 ∧ m.At w') (fun y => m.bs.length - y) 0 ⟨rfl, rfl, rfl, rfl, rfl, rfl, by rw [Nat.zero_mul, Nat.add_zero, show (Z : Int) = (m.e.xs.length : Int) + m.cos.xs.length + m.sin.xs.length + m.bend.xs.length + m.gain.xs.length + m.un.xs.length by omega]; rfl, trivial⟩ ⟨Nat.zero_le _, hF, kp, kq, hAt⟩ ?_
  clear hF kp kq hAt kc
  rintro y u1 ⟨hy, hF, kp, kq, hAt⟩
  have hyB : y * B ≤ 8 * 100000 := Nat.mul_le_mul (by omega) hBb
  refine sC [] rfl ?_; refine sD [] rfl ?_
  refine ev_condD rfl (fun c3 => ?_) (fun c3 => ?_)
  · have hyb : y < m.bs.length := by omega
    obtain ⟨g, o, hA, hblk⟩ := blk_at hAt.blk hyb
    have hz : LenQ s.dim.toNat s.hid.toNat (pBk m.bs[y]) := by
      have hm : pBk m.bs[y] ∈ (sampleP s seed).bs := by rw [← hbs]; exact List.mem_map_of_mem (List.getElem_mem hyb)
      obtain ⟨st, e0⟩ := layF_mem hm
      rw [e0]; exact lenQ_blkF _ _ _
    obtain ⟨b, hb⟩ : ∃ b, b = m.bs[y] := ⟨_, rfl⟩
    rw [← hb] at hblk hz
    obtain ⟨z1, z2, z3, z4, z5, z6, z7, z8, z9⟩ := hz
    have z1 : b.g1.xs.length = s.dim.toNat := z1
    have z2 : b.q.xs.length = s.dim.toNat * s.dim.toNat := z2
    have z3 : b.k.xs.length = s.dim.toNat * s.dim.toNat := z3
    have z4 : b.v.xs.length = s.dim.toNat * s.dim.toNat := z4
    have z5 : b.o.xs.length = s.dim.toNat * s.dim.toNat := z5
    have z6 : b.g2.xs.length = s.dim.toNat := z6
    have z7 : b.ga.xs.length = s.hid.toNat * s.dim.toNat := z7
    have z8 : b.up.xs.length = s.hid.toNat * s.dim.toNat := z8
    have z9 : b.dn.xs.length = s.dim.toNat * s.hid.toNat := z9
    refine sA [] rfl ?_
    refine ev_indexAddr rfl rfl tabOk (congrArg (fun z => some (Value.slice z m.bs.length m.bc)) hA) rfl rfl (by omega) (by omega) ?_
    refine ev_loadAgg rfl rfl tabOk rfl rfl rfl hblk ?_
    refine ev_alloc rfl rfl inf60 (fun p8 u2 hp8 k8 f2 => ?_)
    skip
    refine ev_storeAgg tabOk rfl rfl rfl rfl rfl rfl k8 rfl (fun u3 k8 f3 => ?_)
    have h13 : Fr no u1 u3 := f2.trans f3 fun z hz e => by have : z = p8 := e; omega
    have kp := kp.fr0 h13
    have kq := kq.fr0 h13
    have hF := hF.tr h13
    have hAt := hAt.fr0 h13
    have k8 : Blk u3 p8 (bkC b) 60 := k8
    clear hblk
    refine sA [] rfl ?_; refine ev_loadB rfl rfl tabOk rfl rfl ‹_› (by rfl) ?_; refine sA [] rfl ?_; refine ev_loadB rfl rfl tabOk rfl rfl ‹_› (by rfl) ?_; refine sA [] rfl ?_; refine ev_arith rfl rfl rfl rfl rfl (by simp only [lowK, hiK]; omega) ?_; refine sA [] rfl ?_; refine ev_loadB rfl rfl tabOk rfl rfl ‹_› (by rfl) ?_; refine sA [] rfl ?_; refine ev_arith rfl rfl rfl rfl rfl (by simp only [lowK, hiK]; omega) ?_; refine sA [] rfl ?_; refine ev_loadB rfl rfl tabOk rfl rfl ‹_› (by rfl) ?_; refine sA [] rfl ?_; refine ev_arith rfl rfl rfl rfl rfl (by simp only [lowK, hiK]; omega) ?_; refine sA [] rfl ?_; refine ev_loadB rfl rfl tabOk rfl rfl ‹_› (by rfl) ?_; refine sA [] rfl ?_; refine ev_arith rfl rfl rfl rfl rfl (by simp only [lowK, hiK]; omega) ?_; refine sA [] rfl ?_; refine ev_loadB rfl rfl tabOk rfl rfl ‹_› (by rfl) ?_; refine sA [] rfl ?_; refine ev_arith rfl rfl rfl rfl rfl (by simp only [lowK, hiK]; omega) ?_; refine sA [] rfl ?_; refine ev_loadB rfl rfl tabOk rfl rfl ‹_› (by rfl) ?_; refine sA [] rfl ?_; refine ev_arith rfl rfl rfl rfl rfl (by simp only [lowK, hiK]; omega) ?_; refine sA [] rfl ?_; refine ev_loadB rfl rfl tabOk rfl rfl ‹_› (by rfl) ?_; refine sA [] rfl ?_; refine ev_arith rfl rfl rfl rfl rfl (by simp only [lowK, hiK]; omega) ?_; refine sA [] rfl ?_; refine ev_loadB rfl rfl tabOk rfl rfl ‹_› (by rfl) ?_; refine sA [] rfl ?_; refine ev_arith rfl rfl rfl rfl rfl (by simp only [lowK, hiK]; omega) ?_; refine ev_arith rfl rfl rfl rfl rfl (by simp only [lowK, hiK]; omega) ?_; refine sA [] rfl ?_; refine ev_arith rfl rfl rfl rfl rfl (by simp only [lowK, hiK]; omega) ?_; refine sA [] rfl ?_
    refine ev_next (y + 1) (by omega) ⟨by omega, hF, kp, kq, hAt⟩ ⟨rfl, rfl, rfl, rfl, rfl, by rw [show ((y + 1 : Nat) : Int) = (y : Int) + 1 by omega]; rfl, ?_, trivial⟩
    rw [Nat.succ_mul, show ((Z + (y * B + B) : Nat) : Int) = ((Z + y * B : Nat) : Int) + ((b.g1.xs.length : Int) + b.q.xs.length + b.k.xs.length + b.v.xs.length + b.o.xs.length + b.g2.xs.length + b.ga.xs.length + b.up.xs.length + b.dn.xs.length) by omega]
    rfl
  · obtain rfl : y = m.bs.length := by omega
    rw [hbl, hnum]
    refine sC [] rfl ?_; refine sC [] rfl ?_; refine sD [] rfl ?_; refine sD [] rfl ?_
    rw [show decide (numS s = numS s) = true from decide_eq_true rfl]
    refine ev_loadAggB rfl rfl tabOk rfl rfl ‹_› (by rfl) ?_; refine ev_loadAggB rfl rfl tabOk rfl rfl ‹_› (by rfl) ?_
    refine ev_call rfl rfl rfl (wSameM m m u1 hAt hAt hsm hsm) ?_
    rintro r u2 ⟨rfl, f2⟩
    rw [eqB_t rfl]
    refine sA [] rfl ?_
    exact ret1 (.inr rfl) rfl rfl ⟨rfl, hF.tr f2⟩
end Go.Wk.YtfgllkflnkolhaaDoor
