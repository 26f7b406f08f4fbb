/-
  Taken for this seat out of ShR.
-/
import Derived.Test.YtdelgnflcfhhkaaGreatDoorPShQ
set_option linter.unusedVariables false
namespace Go.Wk.YtdelgnflcfhhkaaGreatDoor
open Go Go.Wk Go.Proofs
section
variable {P : Program} {fn : Func} {R : Ending → World → Prop} {n : Nat} {w : World} {k : List It} {env : Env} {L l : List Oper} {d : Nat} {ty : TypeId} {ps : String} {af : Array Edge} {g : Option (Nat × Bool)}
/-- the greatest of three -/
theorem ev_max3 {x y z : Operand} {ats : Array TypeId} {kd : IntKind} {a b c : Int} (hg : guardOf L env g = some true) (hd : Nat.blt d n = true) (hx : ev env x = some (.int kd a)) (hy : ev env y = some (.int kd b)) (hz : ev env z = some (.int kd c))
    (hk : H P fn R n (.ops L l :: k) .normal ((d, .int kd (if (if a < b then b else a) < c then c else (if a < b then b else a))) :: env) w) :
    H P fn R n (.ops L (⟨some d, .call ⟨.builtin .max, ⟨[x, y, z]⟩, ats⟩, ty, ps, af, g⟩ :: l) :: k) .normal env w :=
  ev_y hg hd (fun a hA w' _ => by simp only [execOp, resolve, List.map_toArray, List.map, hA.ev hx, hA.ev hy, hA.ev hz]; rfl) hk
end
/-- the greatest size -/
def topQ (xs : List Int8) : Nat → Int
  | 0 => 0
  | i + 1 => let a := (xs.getD i 0).toInt; let b := if topQ xs i < a then a else topQ xs i; if b < -a then -a else b
theorem topQ_bd (xs : List Int8) : ∀ i, 0 ≤ topQ xs i ∧ topQ xs i ≤ 128
  | 0 => by simp [topQ]
  | i + 1 => by
    have := topQ_bd xs i
    have := i8_bd' (xs.getD i 0)
    simp only [topQ]; split <;> split <;> omega
/-- the last of a row -/
def stepQ (s : Shp) (r : List Int) (b : Bk (List Int8)) : List Int :=
  let a := r.getLastD 0 + moreQ b.o s.dim.toNat b.os.toNat s.dim.toNat
  r ++ [a, a + moreQ b.dn s.hid.toNat b.dns.toNat s.dim.toNat]
def firstQ (m : Md) : Int := topQ m.e m.e.length * 2 ^ m.es.toNat
def reachQ (m : Md) : List Int := m.bs.foldl (stepQ m.s) [firstQ m]
/-- what is said of parts that are right -/
structure PartsOk (m : Md) : Prop where
  es : 0 ≤ m.es ∧ m.es ≤ 24
  lay : (m.bs.length : Int) = m.s.lay
  bs : ∀ b ∈ m.bs, blockQ m.s b = 0
  e : (m.e.length : Int) = m.s.voc * m.s.dim
  tail : tailQ m = (0, 0, 0)
theorem parts_ok {m : Md} {half : Int} (h : (partsQ m half).2.2 = 0) (hs : okS m.s) : PartsOk m := by
  unfold partsQ at h
  split at h
  · cases h
  rename_i h1
  split at h
  · cases h
  rename_i h2
  split at h
  · cases h
  split at h
  · cases h
  have hz : ∀ i, i < blkN m.s m.bs → blkAt m.s m.bs i = 0 := by
    cases hf : (List.range (blkN m.s m.bs)).find? (fun i => !decide (blkAt m.s m.bs i = 0)) with
    | none =>
      rw [List.find?_eq_none] at hf
      intro i hi
      simpa using hf i (List.mem_range.2 hi)
    | some i =>
      rw [hf, Option.elim_some] at h
      have h : blkAt m.s m.bs i = 0 := h
      have := List.find?_some hf
      simp [h] at this
  obtain ⟨_, _, _, _, _, _, ⟨l1, l2⟩, _⟩ := hs
  have hl : (m.bs.length : Int) = m.s.lay := by
    rcases Int.lt_trichotomy (m.bs.length : Int) m.s.lay with c | c | c
    · have := hz m.bs.length (by unfold blkN; omega)
      unfold blkAt at this
      simp at this
    · exact c
    · have := hz m.s.lay.toNat (by unfold blkN; omega)
      unfold blkAt at this
      rw [List.getElem?_eq_getElem (by omega)] at this
      simp only at this
      rw [if_neg (by omega)] at this
      cases this
  refine ⟨by omega, hl, fun b hb => ?_, by omega, ?_⟩
  · obtain ⟨i, hi, rfl⟩ := List.getElem_of_mem hb
    have := hz i (by unfold blkN; omega)
    unfold blkAt at this
    rw [List.getElem?_eq_getElem hi] at this
    simp only at this
    rwa [if_pos (by omega)] at this
  · have hf : (List.range (blkN m.s m.bs)).find? (fun i => !decide (blkAt m.s m.bs i = 0)) = none := by
      rw [List.find?_eq_none]
      intro i hi
      simpa using hz i (List.mem_range.1 hi)
    rw [hf, Option.elim_none] at h
    unfold tailQ at h ⊢
    (repeat' split at h) <;> first | (cases h; done) | simp_all
theorem moreQ_bd64 {xs : List Int8} {n s : Nat} (hn : n ≤ 256) (q : Nat) : 0 ≤ moreQ xs n s q ∧ moreQ xs n s q ≤ 4161537 := by
  have := moreQ_bd xs (n := n) (s := s) (by omega) q
  omega
/-- the reaches after so many blocks -/
def rN (m : Md) (y : Nat) : List Int := (m.bs.take y).foldl (stepQ m.s) [firstQ m]
def lN (m : Md) (y : Nat) : Int := (rN m y).getLastD 0
theorem rN_succ (m : Md) {y : Nat} (h : y < m.bs.length) : rN m (y + 1) = rN m y ++ [lN m y + moreQ m.bs[y].o m.s.dim.toNat m.bs[y].os.toNat m.s.dim.toNat, lN m y + moreQ m.bs[y].o m.s.dim.toNat m.bs[y].os.toNat m.s.dim.toNat + moreQ m.bs[y].dn m.s.hid.toNat m.bs[y].dns.toNat m.s.dim.toNat] := by
  unfold rN
  rw [List.take_succ_eq_append_getElem h, List.foldl_append]
  rfl
theorem lN_succ (m : Md) {y : Nat} (h : y < m.bs.length) : lN m (y + 1) = lN m y + moreQ m.bs[y].o m.s.dim.toNat m.bs[y].os.toNat m.s.dim.toNat + moreQ m.bs[y].dn m.s.hid.toNat m.bs[y].dns.toNat m.s.dim.toNat := by
  have e := rN_succ m h
  unfold lN at e ⊢
  rw [e, List.getLastD_eq_getLast?, List.getLast?_append]
  rfl
theorem rN_len (m : Md) : ∀ y, y ≤ m.bs.length → (rN m y).length = 1 + 2 * y
  | 0, _ => rfl
  | y + 1, h => by rw [rN_succ m h, List.length_append, rN_len m y (by omega)]; simp; omega
theorem rN_all (m : Md) : rN m m.bs.length = reachQ m := by unfold rN reachQ; rw [List.take_length]
theorem firstQ_bd (m : Md) (h : 0 ≤ m.es ∧ m.es ≤ 24) : 0 ≤ firstQ m ∧ firstQ m ≤ 2147483648 := by
  have h1 := topQ_bd m.e m.e.length
  have h2 : (2 : Int) ^ m.es.toNat ≤ 2 ^ 24 := by exact_mod_cast Nat.pow_le_pow_right (n := 2) (by omega) (show m.es.toNat ≤ 24 by omega)
  have h3 : (0 : Int) < 2 ^ m.es.toNat := Int.pow_pos (by omega)
  have h4 := Int.mul_le_mul h1.2 h2 (by omega) (by omega)
  have h5 := Int.mul_nonneg h1.1 (show (0 : Int) ≤ 2 ^ m.es.toNat by omega)
  unfold firstQ
  omega
theorem lN_bd (m : Md) (h : 0 ≤ m.es ∧ m.es ≤ 24) (hs : okS m.s) : ∀ y, y ≤ m.bs.length → 0 ≤ lN m y ∧ lN m y ≤ 2147483648 + 8323074 * (y : Int)
  | 0, _ => by
    have := firstQ_bd m h
    show 0 ≤ firstQ m ∧ firstQ m ≤ _
    omega
  | y + 1, hy => by
    have ih := lN_bd m h hs y (by omega)
    obtain ⟨_, _, ⟨d1, d2⟩, _, _, _, _, h1, h2⟩ := hs
    rw [lN_succ m hy]
    have a := moreQ_bd64 (xs := m.bs[y].o) (n := m.s.dim.toNat) (s := m.bs[y].os.toNat) (by omega) m.s.dim.toNat
    have b := moreQ_bd64 (xs := m.bs[y].dn) (n := m.s.hid.toNat) (s := m.bs[y].dns.toNat) (by omega) m.s.dim.toNat
    omega
theorem rN_last (m : Md) {y : Nat} (h : y ≤ m.bs.length) : (rN m y)[2 * y]? = some (lN m y) := by
  have hl := rN_len m y h
  unfold lN
  rw [List.getLastD_eq_getLast?, List.getLast?_eq_getElem?, hl, show 1 + 2 * y - 1 = 2 * y by omega, List.getElem?_eq_getElem (by omega)]
  rfl
/-- what is asked of a block's rows -/
theorem block_ok {s : Shp} {b : Bk (List Int8)} (h : blockQ s b = 0) : lenQ s.dim [b.g1, b.g2] = true ∧ lenQ (s.dim * s.dim) [b.q, b.k, b.v, b.o] = true ∧ lenQ (s.dim * s.hid) [b.ga, b.up, b.dn] = true ∧ shiftQ [b.qs, b.ks, b.vs, b.os, b.ss, b.gas, b.ups, b.dns] = true := by
  unfold blockQ at h
  (repeat' split at h) <;> first | (cases h; done) | simp_all
theorem block_o {s : Shp} {b : Bk (List Int8)} (h : blockQ s b = 0) : (b.o.length : Int) = s.dim * s.dim ∧ (b.dn.length : Int) = s.dim * s.hid ∧ (0 ≤ b.os ∧ b.os ≤ 31) ∧ (0 ≤ b.dns ∧ b.dns ≤ 31) := by
  obtain ⟨_, h2, h3, h4⟩ := block_ok h
  simp [lenQ, shiftQ] at h2 h3 h4
  exact ⟨h2.2.2.2, h3.2.2, by omega, by omega⟩
theorem wMoreI (r : Rw) (n s q : Int) (w : World) (hA : r.At w) (h1 : 1 ≤ n ∧ n ≤ 256) (hq : 0 ≤ q ∧ q ≤ 256) (hxs : (r.xs.length : Int) = q * n) (hcap : r.xs.length ≤ r.c) (hs : 0 ≤ s ∧ s ≤ 31) :
    CallsF Tryz.prog 112 [r.v, i64 n, i64 s] w fun u w' => u = i64 (moreQ r.xs n.toNat s.toNat q.toNat) ∧ Fr no w w' := by
  obtain ⟨n, rfl⟩ := Int.eq_ofNat_of_zero_le (show 0 ≤ n by omega)
  obtain ⟨s, rfl⟩ := Int.eq_ofNat_of_zero_le hs.1
  obtain ⟨q, rfl⟩ := Int.eq_ofNat_of_zero_le hq.1
  have hx : r.xs.length = q * n := by exact_mod_cast hxs
  have hb : q * n ≤ 256 * 256 := Nat.mul_le_mul (by omega) (by omega)
  exact wMore r.A r.xs r.c n q s w hA (by omega) hx (by omega) hcap (by omega) (by omega)
set_option maxHeartbeats 8000000 in
theorem wReaches0 (m : LM) (w : World) (hm : m.At w) (hs : okS m.s) (hp : PartsOk m.p) (hcap : ∀ b ∈ m.bs, b.o.xs.length ≤ b.o.c ∧ b.dn.xs.length ≤ b.dn.c) :
    CallsF Tryz.prog 77 [lmV m] w fun r w' => (∃ A c, r = .slice A (1 + 2 * m.bs.length) c ∧ Cs w' A ((reachQ m.p).map i64)) ∧ Fr no w w' := by
  have hfb := firstQ_bd m.p hp.es
  have hlb := fun y h => lN_bd m.p hp.es hs y h
  have hes : 0 ≤ m.es ∧ m.es ≤ 24 := hp.es
  have hlen : m.p.bs.length = m.bs.length := by simp [LM.p]
  have hlay : (m.p.bs.length : Int) = m.s.lay := hp.lay
  obtain ⟨⟨g1, g2⟩, _, ⟨g5, g6⟩, _, _, _, ⟨g10, g11⟩, g12, g13⟩ := hs
  have hel : m.e.xs.length ≤ 1000000 := by
    have h1 : (m.e.xs.length : Int) = m.s.voc * m.s.dim := hp.e
    have := mul_bd (show 0 ≤ m.s.voc by omega) g2 (show 0 ≤ m.s.dim by omega) g6
    omega
  refine callsF Tryz.func77 rfl rfl (by decide) rfl ?_
  refine sA [] rfl ?_
  refine ev_box rfl rfl rfl fun p w1 hp1 kp f1 => ?_
  refine sA [] rfl ?_; refine ev_loadB rfl rfl tabOk rfl rfl ‹_› (by rfl) ?_; refine sA [] rfl ?_
  have heA : Cs w1 m.e.A (m.e.xs.map i8v) := (hm.rows m.e (by simp)).fr0 f1
  refine ev_loop (α := Nat) (fun y => [(1, .pointer (some ⟨p, 0, none⟩)), (2, .slice none 0 0), (3, i64 (topQ m.e.xs y)), (10, m.e.v), (11, i64 m.e.xs.length), (12, i64 y)]) (fun y w' => y ≤ m.e.xs.length ∧ w' = w1) (fun y => m.e.xs.length - y) 0 ⟨rfl, rfl, rfl, rfl, rfl, rfl, trivial⟩ ⟨Nat.zero_le _, rfl⟩ ?_
  rintro y w' ⟨hy, rfl⟩
  have htb := topQ_bd m.e.xs y
  refine sC [] rfl ?_; refine sD [] rfl ?_
  refine ev_condD rfl (fun c => ?_) (fun c => ?_)
  · have hlt : y < m.e.xs.length := by omega
    obtain ⟨g, o, hA, hcell⟩ := heA y (i8v m.e.xs[y]) (by simp [List.getElem?_eq_getElem hlt])
    have hyb := i8_bd' m.e.xs[y]
    have hyt : topQ m.e.xs (y + 1) = (let a := m.e.xs[y].toInt; let b := if topQ m.e.xs y < a then a else topQ m.e.xs y; if b < -a then -a else b) := by
      simp only [topQ, List.getD_eq_getElem?_getD, List.getElem?_eq_getElem hlt, Option.getD_some]
    refine sA [] rfl ?_
    refine ev_indexAddr rfl rfl tabOk (congrArg (fun z => some (Value.slice z m.e.xs.length m.e.c)) hA) rfl rfl (by omega) (by omega) ?_
    rw [show o + (y : Int).toNat * 1 = o + y by omega]
    refine ev_load rfl rfl tabOk rfl rfl hcell ?_
    obtain ⟨a, ha⟩ : ∃ a, a = m.e.xs[y].toInt := ⟨_, rfl⟩
    rw [show i8v m.e.xs[y] = .int .i8 m.e.xs[y].toInt from rfl, ← ha]
    rw [← ha] at hyb hyt
    refine sA [] rfl ?_; refine ev_conv rfl rfl tabOk rfl rfl rfl (by simp only [lowK, hiK]; omega) ?_; refine sA [] rfl ?_; refine ev_conv rfl rfl tabOk rfl rfl rfl (by simp only [lowK, hiK]; omega) ?_; refine sA [] rfl ?_
    rw [show IntKind.i64.wrap (0 - a) = -a from by rw [show (0 : Int) - a = -a by omega]; exact wrapK (k := .i64) (by simp only [lowK, hiK]; omega)]
    refine ev_max3 rfl rfl rfl rfl rfl ?_
    refine sA [] rfl ?_; refine ev_arith rfl rfl rfl rfl rfl (by simp only [lowK, hiK]; omega) ?_; refine sA [] rfl ?_
    refine ev_next (y + 1) (by omega) ⟨by omega, rfl⟩ ⟨rfl, rfl, by rw [hyt]; rfl, rfl, rfl, by rw [show ((y + 1 : Nat) : Int) = (y : Int) + 1 by omega]; rfl, trivial⟩
  obtain rfl : y = m.e.xs.length := by omega
  refine sA [] rfl ?_; refine ev_loadB rfl rfl tabOk rfl rfl ‹_› (by rfl) ?_
  refine ev_shl rfl rfl rfl rfl hes.1 (by show m.es ≤ ((64 : Nat) : Int); omega) ?_
  rw [show topQ m.e.xs m.e.xs.length * 2 ^ m.es.toNat = firstQ m.p from rfl, show IntKind.i64.wrap (firstQ m.p) = firstQ m.p from wrapK (k := .i64) (by simp only [lowK, hiK]; omega)]
  refine ev_buildSlice tabOk rfl rfl rfl inf2 rfl rfl rfl (fun v hv => by simp at hv; rcases hv with rfl; rfl) rfl (fun g1 w2 hg1 hb1 f2 => ?_)
  have kp2 := kp.fr0 f2
  have hf2 := f1.tr f2
  have hO : Own w2 2 1 (.slice (some ⟨g1, 0, none⟩) 1 1) (1 + 2 * 0) ((rN m.p 0).map i64) := own_of_blk hb1 rfl (by omega)
  have hge : w.heap.size ≤ g1 := Nat.le_trans f1.size hg1
  have hpg : p < g1 := Nat.lt_of_lt_of_le kp.lt hg1
  refine sA [] rfl ?_; refine ev_loadB rfl rfl tabOk rfl rfl ‹_› (by rfl) ?_; refine sA [] rfl ?_
  refine ev_loop (α := Nat × Value) (fun y => [(1, .pointer (some ⟨p, 0, none⟩)), (6, y.2), (30, .slice m.bA m.bs.length m.bc), (31, i64 m.bs.length), (32, i64 y.1)])
    (fun y w' => y.1 ≤ m.bs.length ∧ Fr no w w' ∧ Blk w' p (lmC m) 47 ∧ Own w' 2 1 y.2 (1 + 2 * y.1) ((rN m.p y.1).map i64) ∧ ∀ g, y.2.ownBlock = some g → w.heap.size ≤ g ∧ g ≠ p) (fun y => m.bs.length - y.1) (0, .slice (some ⟨g1, 0, none⟩) 1 1)
    ⟨rfl, rfl, rfl, rfl, rfl, trivial⟩ ⟨Nat.zero_le _, hf2, kp2, hO, fun g hg => by cases hg; exact ⟨hge, Nat.ne_of_gt hpg⟩⟩ ?_
  clear hf2 kp2 hO hb1 kp f2
  rintro ⟨y, v⟩ w3 ⟨hy, hF, kp, hO, hv⟩
  dsimp only at hy hO hv ⊢
  have hl1 := hlb y (by omega)
  have hl2 := rN_last m.p (y := y) (by omega)
  have hl3 := rN_len m.p y (by omega)
  refine sC [] rfl ?_; refine sD [] rfl ?_
  refine ev_condD rfl (fun c => ?_) (fun c => ?_)
  · have hyb : y < m.bs.length := by omega
    have hyp : y < m.p.bs.length := by omega
    have hl4 := hlb (y + 1) (by omega)
    obtain ⟨bo1, bo2, bo3, bo4⟩ := block_o (hp.bs (m.p.bs[y]) (List.getElem_mem hyp))
    have hR := rN_succ m.p hyp
    have hL := lN_succ m.p hyp
    have hq1 := moreQ_bd64 (xs := m.p.bs[y].o) (n := m.p.s.dim.toNat) (s := m.p.bs[y].os.toNat) (by show m.s.dim.toNat ≤ 256; omega) m.p.s.dim.toNat
    have hq2 := moreQ_bd64 (xs := m.p.bs[y].dn) (n := m.p.s.hid.toNat) (s := m.p.bs[y].dns.toNat) (by show m.s.hid.toNat ≤ 256; omega) m.p.s.dim.toNat
    have hbe : m.p.bs[y] = pBk m.bs[y] := by simp [LM.p]
    rw [hbe] at bo1 bo2 bo3 bo4 hR hL hq1 hq2
    have bo1 : (m.bs[y].o.xs.length : Int) = m.s.dim * m.s.dim := bo1
    have bo2 : (m.bs[y].dn.xs.length : Int) = m.s.dim * m.s.hid := bo2
    have bo3 : 0 ≤ m.bs[y].os ∧ m.bs[y].os ≤ 31 := bo3
    have bo4 : 0 ≤ m.bs[y].dns ∧ m.bs[y].dns ≤ 31 := bo4
    have hcp := hcap _ (List.getElem_mem hyb)
    obtain ⟨g, o, hA, hblk⟩ := blk_at (hm.blk.fr0 hF) hyb
    have hm_b : m.bs[y].At w := hm.bs _ (List.getElem_mem hyb)
    have hbat : m.bs[y].At w3 := Bk.At.fr0 hm_b hF
    obtain ⟨b, hb⟩ : ∃ b, b = m.bs[y] := ⟨_, rfl⟩
    rw [← hb] at bo1 bo2 bo3 bo4 hcp hblk hbat hR hL hq1 hq2 hm_b
    refine sA [] rfl ?_
    refine ev_indexAddr rfl rfl tabOk (congrArg (fun z => some (Value.slice z m.bs.length m.bc)) hA) rfl rfl (by omega) (by omega) ?_
    refine ev_loadAgg rfl rfl tabOk rfl rfl rfl hblk ?_
    refine ev_alloc rfl rfl inf73 (fun q w4 hq hC f4 => ?_)
    skip
    refine ev_storeAgg tabOk rfl rfl rfl rfl rfl rfl hC rfl (fun w5 kq f5 => ?_)
    have s3 := hF.size
    have s4 := f4.size
    have hpl := kp.lt
    have h35 : Fr no w3 w5 := f4.trans f5 fun z hz e => by have : z = q := e; omega
    have kp5 := kp.fr0 h35
    have hO5 := hO.fr0 h35
    have hF5 := hF.tr h35
    have hb5 := hbat.fr0 h35
    have kq5 := kq
    have hvq : ∀ g, v.ownBlock = some g → g ≠ q := fun g hg e => by have := hO.lt hg; omega
    clear hC hblk hbat hO kp hF
    refine sA [] rfl ?_
    refine mixC_in (fun w' => Fr (fun b => v.ownBlock = some b) w5 w' ∧ Own w' 2 1 v (1 + 2 * y) ((rN m.p y).map i64)) mixed (fun w6 f6 => ?_)
    have hC6 : Fr (fun b => v.ownBlock = some b) w5 w6 ∧ Own w6 2 1 v (1 + 2 * y) ((rN m.p y).map i64) := ⟨f6.mono fun _ _ z => z.elim, hO5.fr0 f6⟩
    obtain ⟨vA, vc, hve, hvcs, _⟩ := hO5.slice
    subst hve
    refine mA rfl (by kernel_rfl) (by kernel_rfl) ?_
    have hvg : ∃ g, vA = some ⟨g, 0, none⟩ := by
      obtain ⟨g', o', e, _⟩ := hvcs (2 * y) _ (by rw [List.getElem?_map, hl2]; rfl)
      rcases hO5.2 with ⟨e2, _⟩ | ⟨g, cap, cur, e2, _⟩
      · injection e2 with e3; rw [e3] at e; cases e
      · injection e2 with e3; exact ⟨g, e3⟩
    obtain ⟨vg, rfl⟩ := hvg
    have hrow : ∀ w', Own w' 2 1 (.slice (some ⟨vg, 0, none⟩) (1 + 2 * y) vc) (1 + 2 * y) ((rN m.p y).map i64) → w'.cell? ⟨vg, 0 + (2 * y : Nat), none⟩ = some (i64 (lN m.p y)) := fun w' h => by
      obtain ⟨A', c', e, hcs, _⟩ := h.slice
      cases e
      exact hcs.at (by rw [List.getElem?_map, hl2]; rfl)
    have hvp : vg ≠ p := (hv vg rfl).2
    have hvq' : vg ≠ q := hvq vg rfl
    refine m_arith 4 rfl rfl rfl (by kernel_rfl) (by kernel_rfl) rfl rfl rfl rfl rfl (by simp only [lowK, hiK]; omega) ?_
    refine m_indexAddr 5 rfl rfl rfl (by kernel_rfl) (by kernel_rfl) rfl rfl tabOk rfl rfl rfl (by omega) (by omega) ?_
    refine m_load 6 rfl rfl rfl (by kernel_rfl) (by kernel_rfl) rfl rfl tabOk rfl rfl (fun w' h => by have := hrow w' h.2; rwa [show (0 + (((1 + 2 * y : Nat) : Int) - 1).toNat * 1) = 0 + 2 * y by omega]) ?_
    refine m_load 8 rfl rfl rfl (by kernel_rfl) (by kernel_rfl) rfl rfl tabOk rfl rfl (fun w' h => (kq5.fr h.1 (fun e => by cases e; exact hvq' rfl)).cell rfl) ?_
    refine m_load 11 rfl rfl rfl (by kernel_rfl) (by kernel_rfl) rfl rfl tabOk rfl rfl (fun w' h => (kp5.fr h.1 (fun e => by cases e; exact hvp rfl)).cell rfl) ?_
    refine m_load 13 rfl rfl rfl (by kernel_rfl) (by kernel_rfl) rfl rfl tabOk rfl rfl (fun w' h => (kq5.fr h.1 (fun e => by cases e; exact hvq' rfl)).cell rfl) ?_
    refine mix1 rfl rfl ?_ hC6
    refine ev_call rfl rfl rfl (wMoreI b.o m.s.dim b.os m.s.dim w6 ((hb5 _ (by simp)).fr0 f6) (by omega) (by omega) bo1 hcp.1 bo3) (fun r w7 hr => ?_)
    obtain ⟨rfl, f7⟩ := hr
    have hC7 := hC6
    have h57 : Fr no w5 w7 := f6.tr f7
    have hO7 := hO5.fr0 h57
    obtain ⟨a1, ha1⟩ : ∃ a, a = moreQ (pBk b).o m.p.s.dim.toNat (pBk b).os.toNat m.p.s.dim.toNat := ⟨_, rfl⟩
    rw [show moreQ b.o.xs m.s.dim.toNat b.os.toNat m.s.dim.toNat = a1 from ha1.symm]
    rw [← ha1] at hR hL hq1
    refine mix_op ?_
    refine m_arith 15 rfl rfl rfl (by kernel_rfl) (by kernel_rfl) rfl rfl rfl rfl rfl (by simp only [lowK, hiK]; omega) ?_
    refine mix1 rfl rfl ?_ ⟨h57.mono fun _ _ z => z.elim, hO7⟩
    refine ev_buildSlice tabOk rfl rfl rfl inf2 rfl rfl rfl (fun v hv => by simp at hv; rcases hv with rfl; rfl) rfl (fun g8 w8 hg8 hb8 f8 => ?_)
    have h58 := h57.tr f8
    have hO8 := hO7.fr0 f8
    refine mix_op ?_
    refine mix1 rfl rfl ?_ ⟨h58.mono fun _ _ z => z.elim, hO8⟩
    refine ev_appendK tabOk rfl rfl rfl inf2 rfl (by omega) rfl rfl hO8 (Cs.of_blk hb8) rfl (allOne_ok rfl) (by omega) (fun v9 w9 hO9 f9 hn9 hk9 => ?_)
    have hs58 := h58.size
    refine mix_op ?_
    refine mA rfl (by kernel_rfl) (by kernel_rfl) ?_
    refine mix_out rfl ?_ ⟨(h58.mono fun _ _ z => z.elim).trans f9 fun _ _ z => z, hk9 _ _ _ hO8 (by omega)⟩
    refine ev_env [(1, .pointer (some ⟨p, 0, none⟩)), (6, v9), (8, .pointer (some ⟨q, 0, none⟩)), (30, .slice m.bA m.bs.length m.bc), (31, i64 m.bs.length), (32, i64 y)] ⟨rfl, rfl, rfl, rfl, rfl, rfl, trivial⟩ ?_
    have h59 : Fr (fun g => g = vg) w5 w9 := (h58.mono fun _ _ z => z.elim).trans f9 fun z _ e => by cases e; rfl
    have hvgw : w.heap.size ≤ vg := (hv vg rfl).1
    have kp9 := kp5.fr h59 (fun e => hvp e.symm)
    have kq9 := kq5.fr h59 (fun e => hvq' e.symm)
    have hF9 : Fr no w w9 := hF5.trans h59 fun z hz e => by have : z = vg := e; omega
    have hb9 : b.At w9 := (hm_b : b.At w).fr0 hF9
    have hv9 : ∀ g, v9.ownBlock = some g → w.heap.size ≤ g ∧ g ≠ p ∧ g ≠ q := fun g hg => by
      have hq8 := kq5.lt
      have hp8 := kp5.lt
      have hw8 := hF5.size
      rcases hn9 g hg with h | h
      · cases h; exact ⟨hvgw, hvp, hvq'⟩
      · omega
    clear hC6 hC7 hO5 hO7 hO8 hk9 hrow kp5 kq5 hb5 hF5 h57 h58 f6 f7 f8 f9 h35 hb8 hvcs
    have hO9 : Own w9 2 1 v9 (2 + 2 * y) ((rN m.p y ++ [lN m.p y + a1]).map i64) := by
      rw [List.map_append, show 2 + 2 * y = 1 + 2 * y + 1 by omega]; exact hO9
    have hl9 : (rN m.p y ++ [lN m.p y + a1])[1 + 2 * y]? = some (lN m.p y + a1) := by
      rw [List.getElem?_append_right (by omega), hl3]; simp
    obtain ⟨l9, hl9e⟩ : ∃ l, l = rN m.p y ++ [lN m.p y + a1] := ⟨_, rfl⟩
    rw [← hl9e] at hO9 hl9
    obtain ⟨x9, hx9⟩ : ∃ x, x = lN m.p y + a1 := ⟨_, rfl⟩
    rw [← hx9] at hl9 hR hL hl9e
    refine mixC_in (fun w' => Fr (fun b => v9.ownBlock = some b) w9 w' ∧ Own w' 2 1 v9 (2 + 2 * y) (l9.map i64)) mixed (fun wa fa => ?_)
    have hCa : Fr (fun b => v9.ownBlock = some b) w9 wa ∧ Own wa 2 1 v9 (2 + 2 * y) (l9.map i64) := ⟨fa.mono fun _ _ z => z.elim, hO9.fr0 fa⟩
    obtain ⟨uA, uc, hue, hucs, _⟩ := hO9.slice
    subst hue
    refine mA rfl (by kernel_rfl) (by kernel_rfl) ?_
    have hug : ∃ g, uA = some ⟨g, 0, none⟩ := by
      obtain ⟨g', o', e, _⟩ := hucs (1 + 2 * y) _ (by rw [List.getElem?_map, hl9]; rfl)
      rcases hO9.2 with ⟨e2, _⟩ | ⟨g, cap, cur, e2, _⟩
      · injection e2 with e3; rw [e3] at e; cases e
      · injection e2 with e3; exact ⟨g, e3⟩
    obtain ⟨ug, rfl⟩ := hug
    have hrow : ∀ w', Own w' 2 1 (.slice (some ⟨ug, 0, none⟩) (2 + 2 * y) uc) (2 + 2 * y) (l9.map i64) → w'.cell? ⟨ug, 0 + (1 + 2 * y : Nat), none⟩ = some (i64 x9) := fun w' h => by
      obtain ⟨A', c', e, hcs, _⟩ := h.slice
      cases e
      exact hcs.at (by rw [List.getElem?_map, hl9]; rfl)
    have hup : ug ≠ p := (hv9 ug rfl).2.1
    have huq : ug ≠ q := (hv9 ug rfl).2.2
    refine m_arith 4 rfl rfl rfl (by kernel_rfl) (by kernel_rfl) rfl rfl rfl rfl rfl (by simp only [lowK, hiK]; omega) ?_
    refine m_indexAddr 5 rfl rfl rfl (by kernel_rfl) (by kernel_rfl) rfl rfl tabOk rfl rfl rfl (by omega) (by omega) ?_
    refine m_load 6 rfl rfl rfl (by kernel_rfl) (by kernel_rfl) rfl rfl tabOk rfl rfl (fun w' h => by have := hrow w' h.2; rwa [show (0 + (((2 + 2 * y : Nat) : Int) - 1).toNat * 1) = 0 + (1 + 2 * y) by omega]) ?_
    refine m_load 9 rfl rfl rfl (by kernel_rfl) (by kernel_rfl) rfl rfl tabOk rfl rfl (fun w' h => (kq9.fr h.1 (fun e => by cases e; exact huq rfl)).cell rfl) ?_
    refine m_load 12 rfl rfl rfl (by kernel_rfl) (by kernel_rfl) rfl rfl tabOk rfl rfl (fun w' h => (kp9.fr h.1 (fun e => by cases e; exact hup rfl)).cell rfl) ?_
    refine m_load 15 rfl rfl rfl (by kernel_rfl) (by kernel_rfl) rfl rfl tabOk rfl rfl (fun w' h => (kq9.fr h.1 (fun e => by cases e; exact huq rfl)).cell rfl) ?_
    refine mix1 rfl rfl ?_ hCa
    refine ev_call rfl rfl rfl (wMoreI b.dn m.s.hid b.dns m.s.dim wa ((hb9 _ (by simp)).fr0 fa) (by omega) (by omega) bo2 hcp.2 bo4) (fun r wb hr => ?_)
    obtain ⟨rfl, fb⟩ := hr
    have h9b : Fr no w9 wb := fa.tr fb
    have hOb := hO9.fr0 h9b
    obtain ⟨a2, ha2⟩ : ∃ a, a = moreQ (pBk b).dn m.p.s.hid.toNat (pBk b).dns.toNat m.p.s.dim.toNat := ⟨_, rfl⟩
    rw [show moreQ b.dn.xs m.s.hid.toNat b.dns.toNat m.s.dim.toNat = a2 from ha2.symm]
    rw [← ha2] at hR hL hq2
    refine mix_op ?_
    refine m_arith 17 rfl rfl rfl (by kernel_rfl) (by kernel_rfl) rfl rfl rfl rfl rfl (by simp only [lowK, hiK]; omega) ?_
    refine mix1 rfl rfl ?_ ⟨h9b.mono fun _ _ z => z.elim, hOb⟩
    refine ev_buildSlice tabOk rfl rfl rfl inf2 rfl rfl rfl (fun v hv => by simp at hv; rcases hv with rfl; rfl) rfl (fun gc wc hgc hbc fc => ?_)
    have h9c := h9b.tr fc
    have hOc := hOb.fr0 fc
    refine mix_op ?_
    refine mix1 rfl rfl ?_ ⟨h9c.mono fun _ _ z => z.elim, hOc⟩
    refine ev_appendK tabOk rfl rfl rfl inf2 rfl (by omega) rfl rfl hOc (Cs.of_blk hbc) rfl (allOne_ok rfl) (by omega) (fun vd wd hOd fd hnd hkd => ?_)
    refine mix_op ?_
    refine mA rfl (by kernel_rfl) (by kernel_rfl) ?_
    refine mix_out rfl ?_ ⟨(h9c.mono fun _ _ z => z.elim).trans fd fun _ _ z => z, hkd _ _ _ hOc (by omega)⟩
    have h9d : Fr (fun g => g = ug) w9 wd := (h9c.mono fun _ _ z => z.elim).trans fd fun z _ e => by cases e; rfl
    have hugw : w.heap.size ≤ ug := (hv9 ug rfl).1
    have kpd := kp9.fr h9d (fun e => hup e.symm)
    have hFd : Fr no w wd := hF9.trans h9d fun z hz e => by have : z = ug := e; omega
    have hvd : ∀ g, vd.ownBlock = some g → w.heap.size ≤ g ∧ g ≠ p := fun g hg => by
      have hp8 := kp9.lt
      have hw8 := hF9.size
      have hs9 := h9c.size
      rcases hnd g hg with h | h
      · cases h; exact ⟨hugw, hup⟩
      · omega
    refine sA [] rfl ?_; refine ev_arith rfl rfl rfl rfl rfl (by simp only [lowK, hiK]; omega) ?_; refine sA [] rfl ?_
    refine fun a hA => ⟨(y + 1, vd), by show m.bs.length - (y + 1) < m.bs.length - y; omega, ⟨by show y + 1 ≤ _; omega, hFd, kpd, ?_, hvd⟩, hA.sub ⟨rfl, rfl, rfl, rfl, by show _ = some (i64 ((y + 1 : Nat) : Int)); rw [show ((y + 1 : Nat) : Int) = (y : Int) + 1 by omega]; rfl, trivial⟩⟩
    show Own wd 2 1 vd (1 + 2 * (y + 1)) ((rN m.p (y + 1)).map i64)
    rw [hR, show rN m.p y ++ [x9, x9 + a2] = l9 ++ [x9 + a2] by rw [hl9e]; simp, List.map_append, show 1 + 2 * (y + 1) = 2 + 2 * y + 1 by omega]
    exact hOd
  · obtain rfl : y = m.bs.length := by omega
    refine sA [] rfl ?_
    obtain ⟨vA, vc, rfl, hvcs, _⟩ := hO.slice
    exact ret1 (.inr rfl) rfl rfl ⟨⟨vA, vc, rfl, by rw [← rN_all, hlen]; exact hvcs⟩, hF⟩
end Go.Wk.YtdelgnflcfhhkaaGreatDoor
namespace Go.Wk.YtdelgnflcfhhkaaGreatDoor
open Go Go.Wk Go.Proofs
/-- the first reach that is too far -/
def farQ (l : List Int) : Option Nat := (List.range l.length).find? fun i => decide (268435456 < l.getD i 0)
/-- what is wrong but for the reaches -/
def allQ (m : Md) : Int × Int × Int :=
  if okS m.s then if (wordsQ m.s m.V).2.2 = 0 then partsQ m (halfS m.s) else wordsQ m.s m.V else (1, 0, 160)
def validQ (m : Md) : Int × Int × Int :=
  if (allQ m).2.2 = 0 then (farQ (reachQ m)).elim (0, 0, 0) fun i => (9, i, 163) else allQ m
theorem allQ_ok {m : Md} (h : (allQ m).2.2 = 0) : okS m.s ∧ (wordsQ m.s m.V).2.2 = 0 ∧ PartsOk m := by
  unfold allQ at h
  split at h
  · rename_i h1
    split at h
    · rename_i h2
      exact ⟨h1, h2, parts_ok h h1⟩
    · rename_i h2; exact absurd h h2
  · cases h
theorem words_bd {s : Shp} {V : VV} : (wordsQ s V).2.2 = 0 → wordsQ s V = (0, 0, 0) := by
  unfold wordsQ
  split
  · split
    · intro _; rfl
    · intro h; cases h
  · rename_i h; intro h2; exact absurd h2 h
/-- rows do not reach past their room -/
def LM.Cap (m : LM) : Prop := ∀ b ∈ m.bs, b.o.xs.length ≤ b.o.c ∧ b.dn.xs.length ≤ b.dn.c
set_option maxHeartbeats 4000000 in
theorem wValid (m : LM) (w : World) (hm : m.At w) (hS : VS m.V) (hbl : m.bs.length ≤ 1000000) (hcap : m.Cap) :
    CallsF Tryz.prog 37 [lmV m] w fun r w' => r = whV (validQ m.p) ∧ Fr no w w' := by
  unfold validQ allQ
  refine callsF Tryz.func37 rfl rfl (by decide) rfl ?_
  refine sA [] rfl ?_
  refine ev_box rfl rfl rfl fun p w1 hp kp f1 => ?_
  refine ev_alloc rfl rfl inf115 (fun q w2 hq kq f2 => ?_)
  have kp2 := kp.fr0 f2
  have hf2 := f1.tr f2
  have hpl := kp.lt
  have hql := kq.lt
  clear kp
  refine sA [] rfl ?_
  have hsh : Cs w2 (some ⟨p, 0, none⟩) (shpC m.s) :=
    (Cs.of_blk kp2).part 0 fun j u hj => match j, hj with
      | 0, h => h | 1, h => h | 2, h => h | 3, h => h | 4, h => h | 5, h => h | n + 6, h => by simp at h
  refine ev_loadAgg rfl rfl tabOk rfl rfl rfl hsh ?_
  refine ev_call rfl rfl rfl (wChk m.s w2) ?_
  rintro r w3 ⟨rfl, f3⟩
  have kp3 := kp2.fr0 f3
  have kq3 := kq.fr0 f3
  have hf3 := hf2.tr f3
  clear hsh kp2 kq
  by_cases hs : okS m.s
  case neg =>
    rw [chk_n hs, if_neg (show ¬ okS m.p.s from hs), if_neg (by simp)]
    refine sA [] rfl ?_
    refine ev_build rfl rfl (v := .agg ⟨[i64 1, i64 0]⟩) rfl (fun w => by kernel_rfl) ?_
    refine sA [] rfl ?_
    refine ev_storeAgg tabOk rfl rfl rfl rfl rfl rfl kq3 rfl (fun wz kz fz => ?_)
    refine sA [] rfl ?_
    exact retG tabOk (.inr rfl) rfl [.agg ⟨[i64 1, i64 0]⟩, i64 160] ⟨⟨_, rfl, .inl ⟨rfl, _, rfl, rfl, Cs.of_blk kz⟩⟩, rfl, trivial⟩ ⟨rfl, hf3.trans fz fun z hz e => by have : z = q := e; have := f1.size; omega⟩
  rw [chk_y hs, if_pos (show okS m.p.s from hs)]
  refine sA [] rfl ?_; refine ev_loadAggB rfl rfl tabOk rfl rfl ‹_› (by rfl) ?_
  refine ev_call rfl rfl rfl (wWords m w3 (hm.fr0 hf3) hS) ?_
  rintro r w4 ⟨rfl, f4⟩
  have kp4 := kp3.fr0 f4
  have kq4 := kq3.fr0 f4
  have hf4 := hf3.tr f4
  clear kp3 kq3
  rw [show wordsQ m.s m.V = wordsQ m.p.s m.p.V from rfl]
  obtain ⟨⟨a1, a2, a3⟩, ha⟩ : ∃ a, a = wordsQ m.p.s m.p.V := ⟨_, rfl⟩
  rw [← ha]
  have s1 := f1.size
  have s2 := f2.size
  have s3 := f3.size
  have s4 := f4.size
  have hpl : p < w1.heap.size := hpl
  have hql : q < w2.heap.size := hql
  refine sA [] rfl ?_
  refine ev_alloc rfl rfl inf115 (fun c w5 hc kc f5 => ?_)
  have kp5 := kp4.fr0 f5
  have kq5 := kq4.fr0 f5
  have hf5 := hf4.tr f5
  clear kp4 kq4
  skip
  refine ev_storeAgg tabOk rfl rfl rfl rfl rfl rfl kc rfl (fun w6 kc6 f6 => ?_)
  have kp6 := kp5.fr f6 (fun e => by have : p = c := e; omega)
  have kq6 := kq5.fr f6 (fun e => by have : q = c := e; omega)
  have hf6 : Fr no w w6 := hf5.trans f6 fun z hz e => by have : z = c := e; omega
  have s5 := f5.size
  have s6 := f6.size
  clear kp5 kq5 kc
  refine sC [] rfl ?_; refine sD [] rfl ?_; refine sD [] rfl ?_; refine sD [] rfl ?_
  refine ev_condD rfl (fun c1 => ?_) (fun c1 => ?_)
  · rw [if_neg (show ¬ (a1, a2, a3).2.2 = 0 from c1), if_neg (show ¬ (a1, a2, a3).2.2 = 0 from c1)]
    refine sA [] rfl ?_; refine ev_loadAggB rfl rfl tabOk rfl rfl ‹_› (by rfl) ?_; refine sA [] rfl ?_
    refine ev_storeAgg tabOk rfl rfl rfl rfl rfl rfl kq6 rfl (fun wz kz fz => ?_)
    refine sA [] rfl ?_
    exact retG tabOk (.inr rfl) rfl [.agg ⟨[i64 a1, i64 a2]⟩, i64 a3] ⟨⟨_, rfl, .inl ⟨rfl, _, rfl, rfl, Cs.of_blk kz⟩⟩, rfl, trivial⟩ ⟨rfl, hf6.trans fz fun z hz e => by have : z = q := e; omega⟩
  rw [if_pos (show (a1, a2, a3).2.2 = 0 by simpa using c1)]
  clear kc6 ha
  refine sA [] rfl ?_; refine ev_loadAggB rfl rfl tabOk rfl rfl ‹_› (by rfl) ?_
  refine ev_call rfl rfl rfl (wParts m w6 (hm.fr0 hf6) hs hbl) ?_
  rintro r w7 ⟨rfl, f7⟩
  have kp7 := kp6.fr0 f7
  have kq7 := kq6.fr0 f7
  have hf7 := hf6.tr f7
  have s7 := f7.size
  clear kp6 kq6
  rw [show partsQ m.p (halfS m.s) = partsQ m.p (halfS m.p.s) from rfl]
  obtain ⟨⟨b1, b2, b3⟩, hb⟩ : ∃ a, a = partsQ m.p (halfS m.p.s) := ⟨_, rfl⟩
  rw [← hb]
  refine sA [] rfl ?_
  refine ev_alloc rfl rfl inf115 (fun d w8 hd kd f8 => ?_)
  have kp8 := kp7.fr0 f8
  have kq8 := kq7.fr0 f8
  have hf8 := hf7.tr f8
  clear kp7 kq7
  skip
  refine ev_storeAgg tabOk rfl rfl rfl rfl rfl rfl kd rfl (fun w9 kd9 f9 => ?_)
  have kp9 := kp8.fr f9 (fun e => by have : p = d := e; omega)
  have kq9 := kq8.fr f9 (fun e => by have : q = d := e; omega)
  have hf9 : Fr no w w9 := hf8.trans f9 fun z hz e => by have : z = d := e; omega
  have s8 := f8.size
  have s9 := f9.size
  clear kp8 kq8 kd
  refine sC [] rfl ?_; refine sD [] rfl ?_; refine sD [] rfl ?_; refine sD [] rfl ?_
  refine ev_condD rfl (fun c2 => ?_) (fun c2 => ?_)
  · rw [if_neg (show ¬ (b1, b2, b3).2.2 = 0 from c2)]
    refine sA [] rfl ?_; refine ev_loadAggB rfl rfl tabOk rfl rfl ‹_› (by rfl) ?_; refine sA [] rfl ?_
    refine ev_storeAgg tabOk rfl rfl rfl rfl rfl rfl kq9 rfl (fun wz kz fz => ?_)
    refine sA [] rfl ?_
    exact retG tabOk (.inr rfl) rfl [.agg ⟨[i64 b1, i64 b2]⟩, i64 b3] ⟨⟨_, rfl, .inl ⟨rfl, _, rfl, rfl, Cs.of_blk kz⟩⟩, rfl, trivial⟩ ⟨rfl, hf9.trans fz fun z hz e => by have : z = q := e; omega⟩
  have hb3 : b3 = 0 := by simpa using c2
  rw [if_pos (show (b1, b2, b3).2.2 = 0 from hb3)]
  clear kd9
  have hp : PartsOk m.p := parts_ok (half := halfS m.p.s) (by rw [← hb]; exact hb3) hs
  have hlay : (m.p.bs.length : Int) = m.s.lay := hp.lay
  have hlen : m.p.bs.length = m.bs.length := by simp [LM.p]
  have hrl : (reachQ m.p).length = 1 + 2 * m.bs.length := by rw [← rN_all, rN_len _ _ (Nat.le_refl _), hlen]
  refine sA [] rfl ?_; refine ev_loadAggB rfl rfl tabOk rfl rfl ‹_› (by rfl) ?_
  refine ev_call rfl rfl rfl (wReaches0 m w9 (hm.fr0 hf9) hs hp hcap) ?_
  rintro r wa ⟨⟨A, ca, rfl, hA⟩, fa⟩
  have kqa := kq9.fr0 fa
  have hfa := hf9.tr fa
  clear kp9 kq9
  have hn : m.bs.length ≤ 1000000 := hbl
  obtain ⟨l, hl⟩ : ∃ l, l = reachQ m.p := ⟨_, rfl⟩
  rw [← hl] at hA hrl ⊢
  obtain ⟨n, hn'⟩ : ∃ n, n = 1 + 2 * m.bs.length := ⟨_, rfl⟩
  rw [← hn'] at hrl ⊢
  refine sA [] rfl ?_
  refine ev_loop (α := Nat) (fun y => [(2, .pointer (some ⟨q, 0, none⟩)), (3, i64 0), (37, .slice A n ca), (38, i64 n), (39, i64 y)])
    (fun y w' => y ≤ n ∧ Fr no w w' ∧ Blk w' q [i64 0, i64 0] 115 ∧ Cs w' A (l.map i64) ∧ ∀ i < y, ¬ 268435456 < l.getD i 0) (fun y => n - y) 0 ⟨rfl, rfl, rfl, rfl, rfl, trivial⟩ ⟨Nat.zero_le _, hfa, kqa, hA, fun i h => absurd h (Nat.not_lt_zero _)⟩ ?_
  clear hfa kqa hA
  rintro y wb ⟨hy, hfb, kqb, hA, hz⟩
  refine sC [] rfl ?_; refine sD [] rfl ?_
  refine ev_condD rfl (fun c3 => ?_) (fun c3 => ?_)
  · have hyl : y < l.length := by omega
    obtain ⟨g, o, hAe, hcell⟩ := hA y (i64 (l.getD y 0)) (by simp [List.getElem?_eq_getElem hyl])
    subst hAe
    obtain ⟨x, hx⟩ : ∃ x, x = l.getD y 0 := ⟨_, rfl⟩
    rw [← hx] at hcell
    refine sA [] rfl ?_
    refine ev_indexAddr rfl rfl tabOk rfl rfl rfl (by omega) (by omega) ?_
    rw [show o + (y : Int).toNat * 1 = o + y by omega]
    refine ev_load rfl rfl tabOk rfl rfl hcell ?_
    refine sC [] rfl ?_; refine sC [] rfl ?_
    refine ev_condD rfl (fun c4 => ?_) (fun c4 => ?_)
    · have hf : farQ l = some y := List.find?_range_eq_some.2 ⟨by rw [← hx]; simpa using c4, List.mem_range.2 hyl, fun j hj => by simpa using hz j hj⟩
      rw [hf, Option.elim_some]
      refine sA [] rfl ?_
      refine ev_build rfl rfl (v := .agg ⟨[i64 9, i64 y]⟩) rfl (fun w => by kernel_rfl) ?_
      skip
      refine ev_storeAgg tabOk rfl rfl rfl rfl rfl rfl kqb rfl (fun wz kz fz => ?_)
      refine sA [] rfl ?_
      exact retG tabOk (.inr rfl) rfl [.agg ⟨[i64 9, i64 y]⟩, i64 163] ⟨⟨_, rfl, .inl ⟨rfl, _, rfl, rfl, Cs.of_blk kz⟩⟩, rfl, trivial⟩ ⟨rfl, hfb.trans fz fun z hz e => by have : z = q := e; omega⟩
    · refine sA [] rfl ?_; refine ev_arith rfl rfl rfl rfl rfl (by simp only [lowK, hiK]; omega) ?_; refine sA [] rfl ?_
      refine ev_next (y + 1) (by omega) ⟨by omega, hfb, kqb, hA, fun i hi => by
        by_cases h : i = y
        · rw [h, ← hx]; exact c4
        · exact hz i (by omega)⟩ ⟨rfl, rfl, rfl, rfl, by rw [show ((y + 1 : Nat) : Int) = (y : Int) + 1 by omega]; rfl, trivial⟩
  · have hf : farQ l = none := List.find?_eq_none.2 fun i hi => by simpa using hz i (by have := List.mem_range.1 hi; omega)
    rw [hf, Option.elim_none]
    refine sA [] rfl ?_
    refine ev_build rfl rfl (v := .agg ⟨[i64 0, i64 0]⟩) rfl (fun w => by kernel_rfl) ?_
    skip
    refine ev_storeAgg tabOk rfl rfl rfl rfl rfl rfl kqb rfl (fun wz kz fz => ?_)
    refine sA [] rfl ?_
    exact retG tabOk (.inr rfl) rfl [.agg ⟨[i64 0, i64 0]⟩, i64 0] ⟨⟨_, rfl, .inl ⟨rfl, _, rfl, rfl, Cs.of_blk kz⟩⟩, rfl, trivial⟩ ⟨rfl, hfb.trans fz fun z hz e => by have : z = q := e; omega⟩
end Go.Wk.YtdelgnflcfhhkaaGreatDoor
namespace Go.Wk.YtdelgnflcfhhkaaGreatDoor
open Go Go.Wk Go.Proofs
theorem layF_len (d h l st : Nat) : (layF d h l st).length = l := by simp [layF]
theorem layF_mem {d h l st : Nat} {b : Bk (List Int8)} (hb : b ∈ layF d h l st) : ∃ s, b = blkF d h s := by
  unfold layF at hb
  obtain ⟨i, _, rfl⟩ := List.mem_map.1 hb
  exact ⟨_, rfl⟩
theorem own_cap {w : World} {e sz n c m : Nat} {A : Option Addr} {xs : List Value} (h : Own w e sz (.slice A n c) m xs) : n ≤ c := by
  rcases h.2 with ⟨e, _⟩ | ⟨g, cap, cur, e, _, _, h1, _⟩
  · cases e; exact Nat.le_refl _
  · cases e; exact h1
theorem OwnM.cap {TM TB : TypeId} {w0 w : World} {m : LM} (h : OwnM TM TB w0 w m) : m.Cap := fun b hb =>
  have f : ∀ r ∈ b.rows, r.xs.length ≤ r.c := fun r hr => own_cap (h.rows r (List.mem_append.2 (.inl (List.mem_append.2 (.inr (List.mem_flatMap.2 ⟨b, hb, hr⟩)))))).1
  ⟨f _ (by simp), f _ (by simp)⟩
theorem sample_VS {s : Shp} (seed : Int) (hs : okS s) : VS (sampleP s seed).V := by
  obtain ⟨⟨a1, a2⟩, _⟩ := hs
  refine ⟨?_, fun t ht => ?_, ?_⟩
  · show (txts s.voc.toNat).length ≤ _; rw [txts_len]; omega
  · obtain ⟨i, _, rfl⟩ := List.mem_map.1 (show t ∈ (List.range s.voc.toNat).map txtF from ht)
    unfold txtF; (repeat' split) <;> simp
  · show (mrgs s.voc.toNat).length ≤ _
    have := mrgs_len s.voc.toNat; omega
theorem lm_bl {m : LM} {p : Md} (h : m.p = p) : m.bs.length = p.bs.length := by rw [← h]; simp [LM.p]
abbrev OwnS (w w' : World) (m : LM) : Prop := OwnM 100 73 w w' m
end Go.Wk.YtdelgnflcfhhkaaGreatDoor
