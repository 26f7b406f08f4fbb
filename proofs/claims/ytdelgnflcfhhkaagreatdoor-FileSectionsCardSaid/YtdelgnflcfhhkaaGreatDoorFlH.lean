/-
  Chapter 17: Encode: the walk.
-/
import Derived.Test.YtdelgnflcfhhkaaGreatDoorFlE
import Derived.Test.YtdelgnflcfhhkaaGreatDoorFlC
import Derived.Test.YtdelgnflcfhhkaaGreatDoorPWb
set_option linter.unusedVariables false
namespace Go.Wk.YtdelgnflcfhhkaaGreatDoor
open Go Go.Wk Go.Proofs

/-- a writer at p, as it stands since w0, where its row was v0 -/
structure WK (w0 : World) (p : Nat) (v0 : Value) (w : World) (bs : List UInt8) (n : Nat) : Prop where
  ex : ∃ v, Wr w p v bs ∧ NB w0 v0 v
  fr : Fr (WrS p v0) w0 w
  le : bs.length ≤ n
section
variable {w0 w w' : World} {p : Nat} {v0 : Value} {bs : List UInt8} {n : Nat}
theorem WK.fr0 (h : WK w0 p v0 w bs n) (hf : Fr no w w') : WK w0 p v0 w' bs n :=
  let ⟨v, h1, h2⟩ := h.ex
  ⟨⟨v, h1.fr0 hf, h2⟩, h.fr.trans hf fun _ _ z => z.elim, h.le⟩
theorem WK.more {m : Nat} (h : WK w0 p v0 w bs n) (hm : n ≤ m) : WK w0 p v0 w bs m := ⟨h.ex, h.fr, Nat.le_trans h.le hm⟩
theorem WK.base {w1 : World} (h : WK w0 p v0 w bs n) (hf : Fr no w w1) : ∃ v, (∀ g, v.ownBlock = some g → g < w.heap.size) ∧ p < w.heap.size ∧ WK w1 p v w1 bs n ∧ NB w0 v0 v ∧ ∀ w' bs' n', WK w1 p v w' bs' n' → WK w0 p v0 w' bs' n' := by
  obtain ⟨v, h1, h2⟩ := h.ex
  have h3 := h.fr.trans hf fun _ _ z => z.elim
  exact ⟨v, fun g hg => h1.2.1.lt hg, h1.1.lt, ⟨⟨v, h1.fr0 hf, NB.refl _ _⟩, Fr.refl _ _, h.le⟩, h2, fun w' bs' n' k => by
    obtain ⟨u, k1, k2⟩ := k.ex
    exact ⟨⟨u, k1, h2.trans k2 h3.size⟩, h3.trans k.fr (WrS_sub h2), k.le⟩⟩
theorem kNum (h : WK w0 p v0 w bs n) (hn : n ≤ 100000000000) (x b : Int) (h1 : -9223372036854775808 ≤ x) (h2 : x ≤ 9223372036854775807) :
    CallsF Tryz.prog 63 [.pointer (some ⟨p, 0, none⟩), .int .i64 x, .int .i64 b] w fun r w' => r = .int .i64 (numE x b) ∧ WK w0 p v0 w' (bs ++ numB x b) (n + 8) := by
  obtain ⟨v, hw, hb⟩ := h.ex
  have hle := h.le
  refine (wrNumber p v bs x b w hw (by omega) h1 h2).mono fun r w' ⟨e, v', a1, a2, a3⟩ => ⟨e, ⟨v', a1, hb.trans a3 h.fr.size⟩, h.fr.trans a2 (WrS_sub hb), ?_⟩
  have := numB_len x b
  rw [List.length_append]; omega
theorem kRaw (h : WK w0 p v0 w bs n) (hn : n ≤ 100000000000) (s : List UInt8) (hs : s.length ≤ 100) :
    CallsF Tryz.prog 61 [.pointer (some ⟨p, 0, none⟩), .string (sOf s)] w fun r w' => WK w0 p v0 w' (bs ++ s) (n + 100) := by
  obtain ⟨v, hw, hb⟩ := h.ex
  have hle := h.le
  refine (wrRaw p v bs s w hw (by omega)).mono fun r w' ⟨v', a1, a2, a3⟩ => ⟨⟨v', a1, hb.trans a3 h.fr.size⟩, h.fr.trans a2 (WrS_sub hb), ?_⟩
  rw [List.length_append]; omega
/-- rows that lie in blocks ahead of w0's writer -/
theorem kRow {W : World} (h : WK w0 p v0 w bs n) (hn : n ≤ 100000000000) (r : Rw) (hr : r.At W) (hl : r.xs.length ≤ 100000) (hW : Fr no W w0) (hp : W.heap.size ≤ p) (hv : ∀ g, v0.ownBlock = some g → W.heap.size ≤ g) :
    CallsF Tryz.prog 64 [.pointer (some ⟨p, 0, none⟩), r.v] w fun _ w' => WK w0 p v0 w' (bs ++ wrwB r.xs) (n + 100000) := by
  obtain ⟨v, hw, hb⟩ := h.ex
  have hle := h.le
  have hvW : ∀ g, v.ownBlock = some g → W.heap.size ≤ g := fun g hg => by
    have := hW.size
    rcases hb g hg with z | z
    · exact hv g z
    · omega
  have hF : Fr no W w := hW.trans h.fr fun c hc z => by
    rcases z with z | z
    · omega
    · have := hv c z; omega
  have hcs : Cs w r.A (r.xs.map iv) := Cs.fr0 hr hF
  have hlt : r.xs ≠ [] → ∀ a, r.A = some a → a.block < W.heap.size := fun hne a ha => by
    cases hx : r.xs with
    | nil => exact absurd hx hne
    | cons x l =>
      obtain ⟨b, o, e2, hcc⟩ := hr 0 (i8v x) (by rw [hx]; rfl)
      rw [ha] at e2; cases e2
      exact cell_lt hcc
  refine (wrRow p v bs r.A r.c r.xs w hw (by omega) hcs (fun hne a ha => ⟨fun e => by have := hlt hne a ha; omega, fun e => by have := hlt hne a ha; have := hvW _ e; omega⟩)).mono fun _ w' ⟨v', a1, a2, a3⟩ => ⟨⟨v', a1, hb.trans a3 h.fr.size⟩, h.fr.trans a2 (WrS_sub hb), ?_⟩
  rw [List.length_append, show (wrwB r.xs).length = r.xs.length from List.length_map _]; omega
end
theorem shp_at (m : LM) : ∀ k (h : k < 6), (lmC m)[k]? = some (i64 (m.s.nums[k]'h)) := fun k h => by
  match k, h with
  | 0, _ => rfl
  | 1, _ => rfl
  | 2, _ => rfl
  | 3, _ => rfl
  | 4, _ => rfl
  | 5, _ => rfl
  | k + 6, h => exact absurd h (by omega)
theorem flat_take {α : Type} {f : α → List UInt8} {l : List α} {k : Nat} (h : k < l.length) : (l.take (k + 1)).flatMap f = (l.take k).flatMap f ++ f l[k] := by
  rw [List.take_succ_eq_append_getElem h, List.flatMap_append]
  simp
/-- an old block is none of the writer's -/
theorem WK.old {w0 w1 : World} {p : Nat} {v0 v : Value} (hn : NB w0 v0 v) {b : Nat} (hp : b ≠ p) (hv : v0.ownBlock ≠ some b) (hb : b < w0.heap.size) : ¬ WrS p v b := fun e => by
  rcases e with e | e
  · exact hp e
  · rcases hn b e with z | z
    · exact hv z
    · omega
theorem shs_at (b : Bk Rw) (q : Nat) : ∀ k (h : k < 8), ∃ o, [ptA q (0 + 6), ptA q (0 + 7), ptA q (0 + 8), ptA q (0 + 9), ptA q (0 + 10), ptA q (0 + 11 + 3), ptA q (0 + 11 + 4), ptA q (0 + 11 + 5)][k]? = some (ptA q o) ∧ (bkC b)[o]? = some (i64 (b.shs[k]'h)) := fun k h => by
  match k, h with
  | 0, _ => exact ⟨_, rfl, rfl⟩
  | 1, _ => exact ⟨_, rfl, rfl⟩
  | 2, _ => exact ⟨_, rfl, rfl⟩
  | 3, _ => exact ⟨_, rfl, rfl⟩
  | 4, _ => exact ⟨_, rfl, rfl⟩
  | 5, _ => exact ⟨_, rfl, rfl⟩
  | 6, _ => exact ⟨_, rfl, rfl⟩
  | 7, _ => exact ⟨_, rfl, rfl⟩
  | k + 8, h => exact absurd h (by omega)
theorem frs_at (b : Bk Rw) (q : Nat) : ∀ k (h : k < 9), ∃ o, [ptA q (0 + 0), ptA q (0 + 1), ptA q (0 + 2), ptA q (0 + 3), ptA q (0 + 4), ptA q (0 + 5), ptA q (0 + 11 + 0), ptA q (0 + 11 + 1), ptA q (0 + 11 + 2)][k]? = some (ptA q o) ∧ (bkC b)[o]? = some (b.frs[k]'h).v := fun k h => by
  match k, h with
  | 0, _ => exact ⟨_, rfl, rfl⟩
  | 1, _ => exact ⟨_, rfl, rfl⟩
  | 2, _ => exact ⟨_, rfl, rfl⟩
  | 3, _ => exact ⟨_, rfl, rfl⟩
  | 4, _ => exact ⟨_, rfl, rfl⟩
  | 5, _ => exact ⟨_, rfl, rfl⟩
  | 6, _ => exact ⟨_, rfl, rfl⟩
  | 7, _ => exact ⟨_, rfl, rfl⟩
  | 8, _ => exact ⟨_, rfl, rfl⟩
  | k + 9, h => exact absurd h (by omega)
theorem frs_rows {ρ : Type} {b : Bk ρ} {r : ρ} (h : r ∈ b.frs) : r ∈ b.rows := by
  have h : r = b.g1 ∨ r = b.q ∨ r = b.k ∨ r = b.v ∨ r = b.o ∨ r = b.g2 ∨ r = b.ga ∨ r = b.up ∨ r = b.dn := by simpa using h
  rcases h with rfl | rfl | rfl | rfl | rfl | rfl | rfl | rfl | rfl <;> simp
/-- what a valid model's numbers are -/
theorem vm_nums {m : Md} (h : VM m) : ∀ x ∈ m.s.nums, 0 ≤ x ∧ x ≤ 512 := by
  obtain ⟨a, b, c, d, e, f, g, i⟩ := h.s
  have hd : m.s.hds ≤ m.s.dim := by
    have h0 : 0 ≤ m.s.dim % m.s.hds := Int.emod_nonneg _ (by omega)
    rcases Int.lt_or_le m.s.dim m.s.hds with z | z
    · rw [Int.emod_eq_of_lt (by omega) z] at e; omega
    · exact z
  intro x hx
  have hx : x = m.s.voc ∨ x = m.s.ctx ∨ x = m.s.dim ∨ x = m.s.hds ∨ x = m.s.lay ∨ x = m.s.hid := by simpa using hx
  omega
theorem vm_rows {m : Md} (h : VM m) : (m.e.length ≤ 100000 ∧ m.cos.length ≤ 100000 ∧ m.sin.length ≤ 100000 ∧ m.bend.length ≤ 100000 ∧ m.gain.length ≤ 100000 ∧ m.un.length ≤ 100000) ∧ ∀ b ∈ m.bs, ∀ r ∈ b.frs, r.length ≤ 100000 := by
  have hs := h.s
  have hh := half_bd hs
  obtain ⟨a, b, c, d, e, f, g, i⟩ := hs
  have h1 := mul_bd (a := m.s.voc) (b := m.s.dim) (m := 512) (k := 64) (by omega) (by omega) (by omega) (by omega)
  have h2 := mul_bd (a := m.s.ctx) (b := halfS m.s) (m := 512) (k := 32) (by omega) (by omega) (by omega) (by omega)
  have h3 := mul_bd (a := m.s.dim) (b := m.s.dim) (m := 64) (k := 64) (by omega) (by omega) (by omega) (by omega)
  have h4 := mul_bd (a := m.s.dim) (b := m.s.hid) (m := 64) (k := 256) (by omega) (by omega) (by omega) (by omega)
  have e1 := h.e
  have e2 := h.cos
  have e3 := h.sin
  have e4 := h.bend
  have e5 := h.gain
  have e6 := h.un
  refine ⟨by omega, fun b hb r hr => ?_⟩
  obtain ⟨q1, q2, q3, _⟩ := block_ok (h.bs b hb)
  have hr : r = b.g1 ∨ r = b.q ∨ r = b.k ∨ r = b.v ∨ r = b.o ∨ r = b.g2 ∨ r = b.ga ∨ r = b.up ∨ r = b.dn := by simpa using hr
  rcases hr with rfl | rfl | rfl | rfl | rfl | rfl | rfl | rfl | rfl
  · have := len_of q1 b.g1 (by simp); omega
  · have := len_of q2 b.q (by simp); omega
  · have := len_of q2 b.k (by simp); omega
  · have := len_of q2 b.v (by simp); omega
  · have := len_of q2 b.o (by simp); omega
  · have := len_of q1 b.g2 (by simp); omega
  · have := len_of q3 b.ga (by simp); omega
  · have := len_of q3 b.up (by simp); omega
  · have := len_of q3 b.dn (by simp); omega
theorem vm_shs {m : Md} (h : VM m) : ∀ b ∈ m.bs, ∀ x ∈ b.shs, 0 ≤ x ∧ x ≤ 31 := fun b hb => shift_of (block_ok (h.bs b hb)).2.2.2
set_option maxHeartbeats 16000000 in
theorem wEncode (m : LM) (w : World) (hm : m.At w) (hl : m.Sm) (hcap : m.Cap) :
    CallsF Tryz.prog 22 [lmV m] w fun r w' => r = .tuple #[.string (sOf (encA m.p).1), i64 (encA m.p).2] ∧ Fr no w w' := by
  have hbl := hl.bl
  unfold encA
  refine callsF Tryz.func22 rfl rfl (by decide) rfl ?_
  refine sA [] rfl ?_
  refine ev_box rfl rfl rfl fun p w1 hp kp f1 => ?_
  have kp : Blk w1 p (lmC m) 47 := kp
  refine sA [] rfl ?_; refine ev_loadAggB rfl rfl tabOk rfl rfl ‹_› (by rfl) ?_
  refine ev_call rfl rfl rfl (wValid m w1 (hm.fr0 f1) hl.V hbl hcap) ?_
  rintro r w2 ⟨rfl, f2⟩
  have kp2 := kp.fr0 f2
  have hF2 := f1.tr f2
  have hvm := @vm_of m.p
  obtain ⟨a, ha⟩ : ∃ a, a = validQ m.p := ⟨_, rfl⟩
  rw [← ha] at hvm ⊢
  clear kp
  refine sA [] rfl ?_
  refine ev_alloc rfl rfl inf115 (fun d w3 hd kd f3 => ?_)
  refine ev_storeAgg tabOk rfl rfl rfl rfl rfl rfl kd rfl (fun w4 kd4 f4 => ?_)
  have h24 : Fr no w2 w4 := f3.trans f4 fun z hz e => by have : z = d := e; omega
  have kp4 := kp2.fr0 h24
  have hF4 := hF2.tr h24
  clear kp2 kd kd4
  refine sC [] rfl ?_; refine sD [] rfl ?_; refine sD [] rfl ?_; refine sD [] rfl ?_
  refine ev_condD rfl (fun c => ?_) (fun c => ?_)
  · rw [if_neg (show ¬ a.2.2 = 0 by simpa using c)]
    refine sA [] rfl ?_
    exact ret2 (.inr rfl) rfl rfl rfl ⟨rfl, hF4⟩
  have h0 : a.2.2 = 0 := by simpa using c
  have hV := hvm h0
  rw [if_pos h0]
  have hm4 := hm.fr0 hF4
  refine sA [] rfl ?_
  refine ev_call rfl rfl rfl (newWriter w4) ?_
  rintro r w5 ⟨pw, rfl, hpw, hw5, f5⟩
  have k5 : WK w5 pw (.slice none 0 0) w5 [] 0 := ⟨⟨_, hw5, NB.refl _ _⟩, Fr.refl _ _, Nat.le_refl _⟩
  have hv0 : ∀ g, (Value.slice none 0 0).ownBlock = some g → w4.heap.size ≤ g := fun g hg => by cases hg
  have kp5 := kp4.fr0 f5
  have hpn : ¬ WrS pw (.slice none 0 0) p := fun e => by
    rcases e with e | e
    · have := kp4.lt; omega
    · cases e
  refine sA [] rfl ?_
  refine ev_call rfl rfl rfl (kRaw k5 (by omega) MAGIC (by decide)) ?_
  rintro r w6 k6
  have kp6 := kp5.fr k6.fr hpn
  refine sA [] rfl ?_
  refine ev_call rfl rfl rfl (fSizes p 0 w6) ?_
  rintro r w7 ⟨b, rfl, hb, kb, f7⟩
  obtain ⟨v7, hv7, hpw7, k7, nb7, back7⟩ := k6.base f7
  have kp7 := kp6.fr0 f7
  have hp5 : p < w5.heap.size := kp5.lt
  have hppw : p ≠ pw := fun e => by have := kp4.lt; omega
  have hn7p : ¬ WrS pw v7 p := WK.old (w1 := w7) nb7 hppw (fun e => by cases e) hp5
  have hn7b : ¬ WrS pw v7 b := fun e => by
    rcases e with e | e
    · omega
    · have := hv7 b e; omega
  have hnum := vm_nums hV
  refine sA [] rfl ?_
  refine ev_loop (α := Nat) (fun k => [(1, ptA p 0), (6, ptA pw 0), (34, .slice (some ⟨b, 0, none⟩) 6 6), (35, i64 6), (36, i64 k)]) (fun k w' => k ≤ 6 ∧ WK w7 pw v7 w' (MAGIC ++ (m.s.nums.take k).flatMap (encN 2)) (100 + 8 * k)) (fun k => 6 - k) 0 ⟨rfl, rfl, rfl, rfl, rfl, trivial⟩ ⟨Nat.zero_le _, by simpa using k7⟩ ?_
  rintro k w8 ⟨hk, k8⟩
  have kp8 := kp7.fr k8.fr hn7p
  have kb8 := kb.fr k8.fr hn7b
  refine sC [] rfl ?_; refine sD [] rfl ?_
  refine ev_condD rfl (fun c => ?_) (fun c => ?_)
  · have hk6 : k < 6 := by omega
    have hcb : w8.cell? ⟨b, 0 + (k : Int).toNat * 1, none⟩ = some (ptA p (0 + k)) := by
      refine kb8.cell ?_
      rw [show 0 + (k : Int).toNat * 1 = k by omega]
      match k, hk6 with
      | 0, _ => rfl
      | 1, _ => rfl
      | 2, _ => rfl
      | 3, _ => rfl
      | 4, _ => rfl
      | 5, _ => rfl
      | k + 6, h => exact absurd h (by omega)
    have hx := hnum (m.s.nums[k]'hk6) (List.getElem_mem (l := m.s.nums) hk6)
    have hcp : w8.cell? ⟨p, 0 + k, none⟩ = some (i64 (m.s.nums[k]'hk6)) := kp8.cell (by rw [nthV_eq, Nat.zero_add]; exact shp_at m k hk6)
    refine sA [] rfl ?_
    refine ev_indexAddr rfl rfl tabOk rfl rfl rfl (by omega) (by omega) ?_
    refine ev_load rfl rfl tabOk rfl rfl ‹_› ?_; refine sA [] rfl ?_; refine ev_load rfl rfl tabOk rfl rfl ‹_› ?_
    refine ev_call rfl rfl rfl (kNum k8 (by omega) (m.s.nums[k]'hk6) 2 (by omega) (by omega)) ?_
    rintro r w9 ⟨rfl, k9⟩
    refine sA [] rfl ?_; refine ev_arith rfl rfl rfl rfl rfl (by simp only [lowK, hiK]; omega) ?_; refine sA [] rfl ?_
    refine ev_next (k + 1) (by omega) ⟨by omega, ?_⟩ ⟨rfl, rfl, rfl, rfl, by rw [show ((k + 1 : Nat) : Int) = (k : Int) + 1 by omega]; rfl, trivial⟩
    have k9 := k9.more (m := 100 + 8 * (k + 1)) (by omega)
    rw [flat_take (l := m.s.nums) hk6, ← List.append_assoc]
    exact k9
  obtain rfl : k = 6 := by omega
  have k8 : WK w7 pw v7 w8 (MAGIC ++ encS m.s) (100 + 8 * 6) := k8
  have ka := back7 _ _ _ k8
  have kpa := kp5.fr ka.fr hpn
  have hes := hV.es
  have hls := hV.ls
  have hes : 0 ≤ m.es ∧ m.es ≤ 24 := hes
  have hls : 0 ≤ m.ls ∧ m.ls ≤ 31 := hls
  clear kb kp7 k7 k8 kp8 kb8 back7 k6 kp6 hnum
  refine sA [] rfl ?_; refine ev_loadB rfl rfl tabOk rfl rfl ‹_› (by rfl) ?_
  refine ev_call rfl rfl rfl (kNum ka (by omega) m.es 1 (by omega) (by omega)) ?_
  rintro r wb ⟨rfl, kb⟩
  have kpb := kp5.fr kb.fr hpn
  refine sA [] rfl ?_; refine ev_loadB rfl rfl tabOk rfl rfl ‹_› (by rfl) ?_
  refine ev_call rfl rfl rfl (kNum kb (by omega) m.ls 1 (by omega) (by omega)) ?_
  rintro r wc ⟨rfl, kc⟩
  have kpc := kp5.fr kc.fr hpn
  have hF4w : ∀ {w' bs n}, WK w5 pw (.slice none 0 0) w' bs n → Fr no w4 w' := fun k => f5.trans k.fr fun c hc z => by
    rcases z with z | z
    · omega
    · cases z
  obtain ⟨X1, hX1⟩ : ∃ X1, X1 = MAGIC ++ encS m.s ++ numB m.es 1 ++ numB m.ls 1 := ⟨_, rfl⟩
  rw [← hX1] at kc
  have hto := hV.V
  have htf := hto.few
  have hmf := hto.fewM
  have htf : m.V.texts.length ≤ 512 := htf
  have hmf : m.V.merges.length ≤ 1024 := hmf
  clear ka kpa kb kpb
  refine sA [] rfl ?_; refine ev_loadB rfl rfl tabOk rfl rfl ‹_› (by rfl) ?_; refine sA [] rfl ?_
  refine ev_loop (α := Nat) (fun k => [(1, ptA p 0), (6, ptA pw 0), (56, .slice m.tA m.V.texts.length m.tc), (57, i64 m.V.texts.length), (58, i64 k)]) (fun k w' => k ≤ m.V.texts.length ∧ WK w5 pw (.slice none 0 0) w' (X1 ++ (m.V.texts.take k).flatMap encT) (200 + 108 * k)) (fun k => m.V.texts.length - k) 0 ⟨rfl, rfl, rfl, rfl, rfl, trivial⟩ ⟨Nat.zero_le _, by simpa using kc.more (m := 200) (by omega)⟩ ?_
  clear kc kpc
  rintro k w8 ⟨hk, k8⟩
  have kp8 := kp5.fr k8.fr hpn
  refine sC [] rfl ?_; refine sD [] rfl ?_
  refine ev_condD rfl (fun c => ?_) (fun c => ?_)
  · have hlt : k < m.V.texts.length := by omega
    obtain ⟨g, o, hA, hcc⟩ := (hm4.fr0 (hF4w k8)).voc.1 k (sv m.V.texts[k]) (by rw [List.getElem?_map, List.getElem?_eq_getElem hlt]; rfl)
    have hcc : w8.cell? ⟨g, o + (k : Int).toNat * 1, none⟩ = some (sv m.V.texts[k]) := by rw [show o + (k : Int).toNat * 1 = o + k by omega]; exact hcc
    have htl : m.V.texts[k].length ≤ 64 := by
      have := (hto.texts k hlt).2.2
      rw [show VV.t (m.p).V k = m.V.texts[k] by unfold VV.t; rw [List.getD_eq_getElem?_getD, show (m.p).V.texts = m.V.texts from rfl, List.getElem?_eq_getElem hlt]; rfl] at this
      exact this
    obtain ⟨t, ht⟩ : ∃ t, t = m.V.texts[k] := ⟨_, rfl⟩
    have hft := flat_take (f := encT) hlt
    rw [← ht] at hcc htl hft
    refine sA [] rfl ?_
    refine ev_indexAddr rfl rfl tabOk (congrArg (fun z => some (Value.slice z m.V.texts.length m.tc)) hA) rfl rfl (by omega) (by omega) ?_
    refine ev_load rfl rfl tabOk rfl rfl ‹_› ?_; refine sA [] rfl ?_
    refine ev_call rfl rfl rfl (kNum k8 (by omega) t.length 1 (by omega) (by omega)) ?_
    rintro r w9 ⟨rfl, k9⟩
    refine sA [] rfl ?_
    refine ev_call rfl rfl rfl (kRaw k9 (by omega) t (by omega)) ?_
    rintro r wa ka
    refine sA [] rfl ?_; refine ev_arith rfl rfl rfl rfl rfl (by simp only [lowK, hiK]; omega) ?_; refine sA [] rfl ?_
    refine ev_next (k + 1) (by omega) ⟨by omega, ?_⟩ ⟨rfl, rfl, rfl, rfl, by rw [show ((k + 1 : Nat) : Int) = (k : Int) + 1 by omega]; rfl, trivial⟩
    have ka := ka.more (m := 200 + 108 * (k + 1)) (by omega)
    rw [hft, ← List.append_assoc]
    rw [List.append_assoc _ (numB _ _)] at ka
    exact ka
  obtain rfl : k = m.V.texts.length := by omega
  rw [List.take_length] at k8
  have k8 := k8.more (m := 60000) (by omega)
  refine sA [] rfl ?_; refine ev_loadB rfl rfl tabOk rfl rfl ‹_› (by rfl) ?_; refine sA [] rfl ?_
  refine ev_call rfl rfl rfl (kNum k8 (by omega) m.V.merges.length 2 (by omega) (by omega)) ?_
  rintro r w9 ⟨rfl, k9⟩
  have kp9 := kp5.fr k9.fr hpn
  obtain ⟨X2, hX2⟩ : ∃ X2, X2 = X1 ++ m.V.texts.flatMap encT ++ numB m.V.merges.length 2 := ⟨_, rfl⟩
  rw [← hX2] at k9
  clear k8 kp8
  refine sA [] rfl ?_; refine ev_loadB rfl rfl tabOk rfl rfl ‹_› (by rfl) ?_; refine sA [] rfl ?_
  refine ev_loop (α := Nat) (fun k => [(1, ptA p 0), (6, ptA pw 0), (78, .slice m.mA m.V.merges.length m.mc), (79, i64 m.V.merges.length), (80, i64 k)]) (fun k w' => k ≤ m.V.merges.length ∧ WK w5 pw (.slice none 0 0) w' (X2 ++ (m.V.merges.take k).flatMap encG) (60008 + 24 * k)) (fun k => m.V.merges.length - k) 0 ⟨rfl, rfl, rfl, rfl, rfl, trivial⟩ ⟨Nat.zero_le _, by simpa using k9⟩ ?_
  clear k9 kp9
  rintro k w8 ⟨hk, k8⟩
  have kp8 := kp5.fr k8.fr hpn
  refine sC [] rfl ?_; refine sD [] rfl ?_
  refine ev_condD rfl (fun c => ?_) (fun c => ?_)
  · have hlt : k < m.V.merges.length := by omega
    obtain ⟨g, o, hA, hcs⟩ := mrgs_at ((hm4.fr0 (hF4w k8)).voc.2) hlt
    have hok := hto.merges k hlt
    have hft := flat_take (f := encG) hlt
    rw [show m.V.merges[k] = m.V.merges.getD k (0, 0, 0) by rw [List.getD_eq_getElem?_getD, List.getElem?_eq_getElem hlt]; rfl] at hft
    have hmk : VV.m (m.p).V k = m.V.merges.getD k (0, 0, 0) := rfl
    obtain ⟨mm, hmm⟩ : ∃ mm, mm = m.V.merges.getD k (0, 0, 0) := ⟨_, rfl⟩
    rw [← hmm] at hcs hft hmk
    have b1 := tok_bd hto hok.1
    have b2 := tok_bd hto hok.2.1
    have b3 := tok_bd hto hok.2.2.1
    rw [hmk] at b1 b2 b3
    refine sA [] rfl ?_
    refine ev_indexAddr rfl rfl tabOk (congrArg (fun z => some (Value.slice z m.V.merges.length m.mc)) hA) rfl rfl (by omega) (by omega) ?_
    refine ev_loadAgg rfl rfl tabOk rfl rfl rfl hcs ?_
    refine ev_alloc rfl rfl inf100 (fun q w10 hq k10 f10 => ?_)
    refine ev_storeAgg tabOk rfl rfl rfl rfl rfl rfl k10 rfl (fun w11 k11 f11 => ?_)
    have h11 : Fr no w8 w11 := f10.trans f11 fun z hz e => by have : z = q := e; omega
    have k11 : Blk w11 q (mrg1 mm) 100 := k11
    obtain ⟨v9, hv9, hpw9, kw, nb9, back9⟩ := k8.base h11
    have hnq : ¬ WrS pw v9 q := fun e => by
      rcases e with e | e
      · omega
      · have := hv9 q e; omega
    refine sA [] rfl ?_; refine ev_loadB rfl rfl tabOk rfl rfl ‹_› (by rfl) ?_
    refine ev_call rfl rfl rfl (kNum kw (by omega) mm.1 2 (by omega) (by omega)) ?_
    rintro r w12 ⟨rfl, k12⟩
    have kq12 := k11.fr k12.fr hnq
    refine sA [] rfl ?_; refine ev_loadB rfl rfl tabOk rfl rfl ‹_› (by rfl) ?_
    refine ev_call rfl rfl rfl (kNum k12 (by omega) mm.2.1 2 (by omega) (by omega)) ?_
    rintro r w13 ⟨rfl, k13⟩
    have kq13 := k11.fr k13.fr hnq
    refine sA [] rfl ?_; refine ev_loadB rfl rfl tabOk rfl rfl ‹_› (by rfl) ?_
    refine ev_call rfl rfl rfl (kNum k13 (by omega) mm.2.2 2 (by omega) (by omega)) ?_
    rintro r w14 ⟨rfl, k14⟩
    refine sA [] rfl ?_; refine ev_arith rfl rfl rfl rfl rfl (by simp only [lowK, hiK]; omega) ?_; refine sA [] rfl ?_
    refine ev_next (k + 1) (by omega) ⟨by omega, ?_⟩ ⟨rfl, rfl, rfl, rfl, by rw [show ((k + 1 : Nat) : Int) = (k : Int) + 1 by omega]; rfl, trivial⟩
    have k15 := back9 _ _ _ (k14.more (m := 60008 + 24 * (k + 1)) (by omega))
    rw [hft, ← List.append_assoc]
    rw [List.append_assoc _ (numB mm.2.1 _), List.append_assoc _ (numB mm.1 _)] at k15
    exact k15
  obtain rfl : k = m.V.merges.length := by omega
  rw [List.take_length] at k8
  have k8 := k8.more (m := 100000) (by omega)
  obtain ⟨X3, hX3⟩ : ∃ X3, X3 = X2 ++ m.V.merges.flatMap encG := ⟨_, rfl⟩
  rw [← hX3] at k8
  have hrw := vm_rows hV
  obtain ⟨⟨r1, r2, r3, r4, r5, r6⟩, hrb⟩ := hrw
  refine sA [] rfl ?_; refine ev_loadB rfl rfl tabOk rfl rfl ‹_› (by rfl) ?_
  refine ev_call rfl rfl rfl (kRow k8 (by omega) m.e (hm4.rows m.e (by simp)) r1 f5 hpw hv0) ?_
  rintro r w9 k9
  have kp9 := kp5.fr k9.fr hpn
  refine sA [] rfl ?_; refine ev_loadB rfl rfl tabOk rfl rfl ‹_› (by rfl) ?_
  refine ev_call rfl rfl rfl (kRow k9 (by omega) m.cos (hm4.rows m.cos (by simp)) r2 f5 hpw hv0) ?_
  rintro r wa ka
  have kpa := kp5.fr ka.fr hpn
  refine sA [] rfl ?_; refine ev_loadB rfl rfl tabOk rfl rfl ‹_› (by rfl) ?_
  refine ev_call rfl rfl rfl (kRow ka (by omega) m.sin (hm4.rows m.sin (by simp)) r3 f5 hpw hv0) ?_
  rintro r wb kb
  have kpb := kp5.fr kb.fr hpn
  have kb := kb.more (m := 400000) (by omega)
  obtain ⟨X4, hX4⟩ : ∃ X4, X4 = X3 ++ wrwB m.e.xs ++ wrwB m.cos.xs ++ wrwB m.sin.xs := ⟨_, rfl⟩
  rw [← hX4] at kb
  clear k8 kp8 k9 kp9 ka kpa
  have hlay : m.bs.length ≤ 8 := by
    have h1 : ((m.p.bs).length : Int) = m.s.lay := hV.lay
    have h2 := hV.s.2.2.2.2.2.2.1.2
    have h2 : m.s.lay ≤ 8 := h2
    rw [show (m.p.bs).length = m.bs.length from List.length_map _] at h1
    omega
  have hshs := vm_shs hV
  refine sA [] rfl ?_; refine ev_loadB rfl rfl tabOk rfl rfl ‹_› (by rfl) ?_; refine sA [] rfl ?_
  refine ev_loop (α := Nat) (fun y => [(1, ptA p 0), (6, ptA pw 0), (110, .slice m.bA m.bs.length m.bc), (111, i64 m.bs.length), (112, i64 y)]) (fun y w' => y ≤ m.bs.length ∧ WK w5 pw (.slice none 0 0) w' (X4 ++ (m.p.bs.take y).flatMap encBk) (400000 + 1000000 * y)) (fun y => m.bs.length - y) 0 ⟨rfl, rfl, rfl, rfl, rfl, trivial⟩ ⟨Nat.zero_le _, by simpa using kb⟩ ?_
  clear kb kpb
  rintro y w8 ⟨hy, k8⟩
  have kp8 := kp5.fr k8.fr hpn
  refine sC [] rfl ?_; refine sD [] rfl ?_
  refine ev_condD rfl (fun c => ?_) (fun c => ?_)
  · have hlt : y < m.bs.length := by omega
    obtain ⟨g, o, hA, hcs⟩ := blk_at ((hm4.fr0 (hF4w k8)).blk) hlt
    have hlp : y < m.p.bs.length := by rw [show (m.p.bs).length = m.bs.length from List.length_map _]; exact hlt
    have hft := flat_take (f := encBk) hlp
    have hpb : m.p.bs[y] = pBk m.bs[y] := by simp [LM.p]
    rw [hpb] at hft
    have hbm : m.bs[y] ∈ m.bs := List.getElem_mem hlt
    have hpm : pBk m.bs[y] ∈ m.p.bs := List.mem_map_of_mem hbm
    have hrl := hrb _ hpm
    have hsl := hshs _ hpm
    have hba := hm4.bs _ hbm
    obtain ⟨b, hb⟩ : ∃ b, b = m.bs[y] := ⟨_, rfl⟩
    rw [← hb] at hcs hft hrl hsl hba
    refine sA [] rfl ?_
    refine ev_indexAddr rfl rfl tabOk (congrArg (fun z => some (Value.slice z m.bs.length m.bc)) hA) rfl rfl (by omega) (by omega) ?_
    refine ev_loadAgg rfl rfl tabOk rfl rfl rfl hcs ?_
    refine ev_alloc rfl rfl inf73 (fun q w10 hq k10 f10 => ?_)
    refine ev_storeAgg tabOk rfl rfl rfl rfl rfl rfl k10 rfl (fun w11 k11 f11 => ?_)
    have h11 : Fr no w8 w11 := f10.trans f11 fun z hz e => by have : z = q := e; omega
    have k11 : Blk w11 q (bkC b) 73 := k11
    refine sA [] rfl ?_
    refine ev_call rfl rfl rfl (fShifts q 0 w11) ?_
    rintro r w12 ⟨b2, rfl, hb2, kb2, f12⟩
    have h12 := h11.tr f12
    obtain ⟨v9, hv9, hpw9, kw, nb9, back9⟩ := k8.base h12
    have hs11 := h11.size
    have hnq : ¬ WrS pw v9 q := fun e => by
      rcases e with e | e
      · omega
      · have := hv9 q e; omega
    have hnb2 : ¬ WrS pw v9 b2 := fun e => by
      rcases e with e | e
      · omega
      · have := hv9 b2 e; omega
    have hn9p : ¬ WrS pw v9 p := WK.old (w1 := w12) nb9 hppw (fun e => by cases e) hp5
    have hv9W : ∀ g, v9.ownBlock = some g → w4.heap.size ≤ g := fun g hg => by
      rcases nb9 g hg with z | z
      · cases z
      · exact Nat.le_trans f5.size z
    have kq12 := k11.fr0 f12
    have kp12 := kp8.fr0 h12
    refine sA [] rfl ?_
    refine ev_loop (α := Nat) (fun k => [(1, ptA p 0), (6, ptA pw 0), (14, ptA q 0), (110, .slice m.bA m.bs.length m.bc), (111, i64 m.bs.length), (112, i64 y), (116, .slice (some ⟨b2, 0, none⟩) 8 8), (117, i64 8), (118, i64 k)]) (fun k w' => k ≤ 8 ∧ WK w12 pw v9 w' (X4 ++ (m.p.bs.take y).flatMap encBk ++ (b.shs.take k).flatMap (encN 1)) (400000 + 1000000 * y + 8 * k)) (fun k => 8 - k) 0 ⟨rfl, rfl, rfl, rfl, rfl, rfl, rfl, rfl, rfl, trivial⟩ ⟨Nat.zero_le _, by simpa using kw⟩ ?_
    rintro k w13 ⟨hk, k13⟩
    have kq13 := kq12.fr k13.fr hnq
    have kb13 := kb2.fr k13.fr hnb2
    have kp13 := kp12.fr k13.fr hn9p
    refine sC [] rfl ?_; refine sD [] rfl ?_
    refine ev_condD rfl (fun c2 => ?_) (fun c2 => ?_)
    · have hk8 : k < 8 := by omega
      obtain ⟨o2, ho1, ho2⟩ := shs_at b q k hk8
      have hcb : w13.cell? ⟨b2, 0 + (k : Int).toNat * 1, none⟩ = some (ptA q o2) := kb13.cell (by rw [nthV_eq, show 0 + (k : Int).toNat * 1 = k by omega]; exact ho1)
      have hx := hsl (b.shs[k]'hk8) (List.getElem_mem (l := b.shs) hk8)
      have hcp : w13.cell? ⟨q, o2, none⟩ = some (i64 (b.shs[k]'hk8)) := kq13.cell (by rw [nthV_eq]; exact ho2)
      refine sA [] rfl ?_
      refine ev_indexAddr rfl rfl tabOk rfl rfl rfl (by omega) (by omega) ?_
      refine ev_load rfl rfl tabOk rfl rfl ‹_› ?_; refine sA [] rfl ?_; refine ev_load rfl rfl tabOk rfl rfl ‹_› ?_
      refine ev_call rfl rfl rfl (kNum k13 (by omega) (b.shs[k]'hk8) 1 (by omega) (by omega)) ?_
      rintro r w14 ⟨rfl, k14⟩
      refine sA [] rfl ?_; refine ev_arith rfl rfl rfl rfl rfl (by simp only [lowK, hiK]; omega) ?_; refine sA [] rfl ?_
      refine ev_next (k + 1) (by omega) ⟨by omega, ?_⟩ ⟨rfl, rfl, rfl, rfl, rfl, rfl, rfl, rfl, by rw [show ((k + 1 : Nat) : Int) = (k : Int) + 1 by omega]; rfl, trivial⟩
      have k14 := k14.more (m := 400000 + 1000000 * y + 8 * (k + 1)) (by omega)
      rw [flat_take (l := b.shs) hk8, ← List.append_assoc]
      exact k14
    obtain rfl : k = 8 := by omega
    have hsd : 0 ≤ m.s.dim ∧ m.s.dim ≤ 1000000 := by
      have h1 := hV.s.2.2.1
      have h1 : 2 ≤ m.s.dim ∧ m.s.dim ≤ 64 := h1
      omega
    have hsh : 0 ≤ m.s.hid ∧ m.s.hid ≤ 1000000 := by
      have h1 := hV.s.2.2.2.2.2.2.2
      have h1 : 1 ≤ m.s.hid ∧ m.s.hid ≤ 256 := h1
      omega
    have hsp : Cs w13 (some ⟨p, 0, none⟩) (shpC m.s) := (Cs.of_blk kp13).part 0 fun j u hj => by
      match j, hj with
      | 0, h => exact h
      | 1, h => exact h
      | 2, h => exact h
      | 3, h => exact h
      | 4, h => exact h
      | 5, h => exact h
      | n + 6, h => simp at h
    refine sA [] rfl ?_
    refine ev_loadAgg rfl rfl tabOk rfl rfl rfl hsp ?_
    refine ev_call rfl rfl rfl (fLists m.s q 0 w13 hsd hsh) ?_
    rintro r w14 ⟨b3, c3, rfl, hb3, hc3, kb3, kc3, f14⟩
    obtain ⟨v10, hv10, hpw10, kx, nb10, back10⟩ := k13.base f14
    have hq13 : q < w12.heap.size := kq12.lt
    have hn10q : ¬ WrS pw v10 q := WK.old (w1 := w14) nb10 (fun e => hnq (.inl e)) (fun e => hnq (.inr e)) hq13
    have hnb3 : ¬ WrS pw v10 b3 := fun e => by
      rcases e with e | e
      · omega
      · have := hv10 b3 e; omega
    have hv10W : ∀ g, v10.ownBlock = some g → w4.heap.size ≤ g := fun g hg => by
      rcases nb10 g hg with z | z
      · exact hv9W g z
      · have := (hF4w k8).size; have := h12.size; omega
    have hF4x : Fr no w4 w14 := by
      have h1 : Fr no w4 w12 := (hF4w k8).tr h12
      have h2 : Fr no w4 w13 := h1.trans k13.fr fun c hc z => by
        rcases z with z | z
        · omega
        · have := hv9W c z; omega
      exact h2.tr f14
    have kq14 := kq13.fr0 f14
    refine sA [] rfl ?_
    refine ev_loop (α := Nat) (fun k => [(1, ptA p 0), (6, ptA pw 0), (110, .slice m.bA m.bs.length m.bc), (111, i64 m.bs.length), (112, i64 y), (134, .slice (some ⟨b3, 0, none⟩) 9 9), (135, i64 9), (136, i64 k)]) (fun k w' => k ≤ 9 ∧ WK w14 pw v10 w' (X4 ++ (m.p.bs.take y).flatMap encBk ++ b.shs.flatMap (encN 1) ++ ((pBk b).frs.take k).flatMap wrwB) (400064 + 1000000 * y + 100000 * k)) (fun k => 9 - k) 0 ⟨rfl, rfl, rfl, rfl, rfl, rfl, rfl, rfl, trivial⟩ ⟨Nat.zero_le _, by rw [List.take_zero, List.flatMap_nil, List.append_nil]; exact kx.more (m := 400064 + 1000000 * y + 100000 * 0) (by omega)⟩ ?_
    rintro k w15 ⟨hk, k15⟩
    have kq15 := kq14.fr k15.fr hn10q
    have kb15 := kb3.fr k15.fr hnb3
    refine sC [] rfl ?_; refine sD [] rfl ?_
    refine ev_condD rfl (fun c2 => ?_) (fun c2 => ?_)
    · have hk9 : k < 9 := by omega
      obtain ⟨o2, ho1, ho2⟩ := frs_at b q k hk9
      have hcb : w15.cell? ⟨b3, 0 + (k : Int).toNat * 1, none⟩ = some (ptA q o2) := kb15.cell (by rw [nthV_eq, show 0 + (k : Int).toNat * 1 = k by omega]; exact ho1)
      have hfm : b.frs[k]'hk9 ∈ b.frs := List.getElem_mem (l := b.frs) hk9
      have hrk := hrl ((b.frs[k]'hk9).xs) (List.mem_map_of_mem (f := Rw.xs) hfm)
      have hrA := hba (b.frs[k]'hk9) (frs_rows hfm)
      have hcp : w15.cell? ⟨q, o2, none⟩ = some (b.frs[k]'hk9).v := kq15.cell (by rw [nthV_eq]; exact ho2)
      have hfk : (pBk b).frs[k]'hk9 = (b.frs[k]'hk9).xs := by
        match k, hk9 with
        | 0, _ => rfl
        | 1, _ => rfl
        | 2, _ => rfl
        | 3, _ => rfl
        | 4, _ => rfl
        | 5, _ => rfl
        | 6, _ => rfl
        | 7, _ => rfl
        | 8, _ => rfl
        | k + 9, h => exact absurd h (by omega)
      refine sA [] rfl ?_
      refine ev_indexAddr rfl rfl tabOk rfl rfl rfl (by omega) (by omega) ?_
      refine ev_load rfl rfl tabOk rfl rfl ‹_› ?_; refine sA [] rfl ?_; refine ev_load rfl rfl tabOk rfl rfl ‹_› ?_
      refine ev_call rfl rfl rfl (kRow k15 (by omega) (b.frs[k]'hk9) hrA hrk hF4x hpw hv10W) ?_
      rintro r w16 k16
      refine sA [] rfl ?_; refine ev_arith rfl rfl rfl rfl rfl (by simp only [lowK, hiK]; omega) ?_; refine sA [] rfl ?_
      refine ev_next (k + 1) (by omega) ⟨by omega, ?_⟩ ⟨rfl, rfl, rfl, rfl, rfl, rfl, rfl, by rw [show ((k + 1 : Nat) : Int) = (k : Int) + 1 by omega]; rfl, trivial⟩
      have k16 := k16.more (m := 400064 + 1000000 * y + 100000 * (k + 1)) (by omega)
      rw [flat_take (l := (pBk b).frs) hk9, hfk, ← List.append_assoc]
      exact k16
    obtain rfl : k = 9 := by omega
    have k17 := back9 _ _ _ (back10 _ _ _ (k15.more (m := 400000 + 1000000 * (y + 1)) (by omega)))
    refine sA [] rfl ?_; refine ev_arith rfl rfl rfl rfl rfl (by simp only [lowK, hiK]; omega) ?_; refine sA [] rfl ?_
    refine ev_next (y + 1) (by omega) ⟨by omega, ?_⟩ ⟨rfl, rfl, rfl, rfl, by rw [show ((y + 1 : Nat) : Int) = (y : Int) + 1 by omega]; rfl, trivial⟩
    rw [hft, ← List.append_assoc]
    have k17 : WK w5 pw (.slice none 0 0) w15 (X4 ++ (m.p.bs.take y).flatMap encBk ++ b.shs.flatMap (encN 1) ++ (pBk b).frs.flatMap wrwB) (400000 + 1000000 * (y + 1)) := k17
    rw [List.append_assoc _ (b.shs.flatMap (encN 1))] at k17
    exact k17
  obtain rfl : y = m.bs.length := by omega
  rw [show m.bs.length = m.p.bs.length from (List.length_map _).symm, List.take_length] at k8
  have k8 := k8.more (m := 9000000) (by rw [show m.p.bs.length = m.bs.length from List.length_map _]; omega)
  refine sA [] rfl ?_; refine ev_loadB rfl rfl tabOk rfl rfl ‹_› (by rfl) ?_
  refine ev_call rfl rfl rfl (kRow k8 (by omega) m.bend (hm4.rows m.bend (by simp)) r4 f5 hpw hv0) ?_
  rintro r w9 k9
  have kp9 := kp5.fr k9.fr hpn
  refine sA [] rfl ?_; refine ev_loadB rfl rfl tabOk rfl rfl ‹_› (by rfl) ?_
  refine ev_call rfl rfl rfl (kRow k9 (by omega) m.gain (hm4.rows m.gain (by simp)) r5 f5 hpw hv0) ?_
  rintro r wa ka
  have kpa := kp5.fr ka.fr hpn
  refine sA [] rfl ?_; refine ev_loadB rfl rfl tabOk rfl rfl ‹_› (by rfl) ?_
  refine ev_call rfl rfl rfl (kRow ka (by omega) m.un (hm4.rows m.un (by simp)) r6 f5 hpw hv0) ?_
  rintro r wb kb
  have hQ : X4 ++ m.p.bs.flatMap encBk ++ wrwB m.bend.xs ++ wrwB m.gain.xs ++ wrwB m.un.xs = encQ m.p := by
    rw [hX4, hX3, hX2, hX1]
    unfold encQ encM encBody encV
    simp only [List.append_assoc]
    rfl
  rw [hQ] at kb
  obtain ⟨vz, hz, _⟩ := kb.ex
  have hle := kb.le
  refine sA [] rfl ?_
  refine ev_call rfl rfl rfl (wrBytes pw vz _ wb hz) ?_
  rintro r wc ⟨rfl, rfl⟩
  refine sA [] rfl ?_
  refine ev_call rfl rfl rfl (wSum (encQ m.p) wc (by omega)) ?_
  rintro r wd ⟨rfl, fd⟩
  skip
  have hsl : (sumB (encQ m.p)).length = 8 := leB_len _ _
  refine ev_concat rfl rfl rfl rfl (by omega) ?_
  refine sA [] rfl ?_
  refine ret2 (.inr rfl) rfl rfl rfl ⟨rfl, ((hF4.tr f5).trans kb.fr fun c hc z => ?_).tr fd⟩
  rcases z with z | z
  · have := hF4.size; omega
  · cases z
end Go.Wk.YtdelgnflcfhhkaaGreatDoor
