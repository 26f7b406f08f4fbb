/-
  Chapter 17: Decode: the walk.
-/
import Derived.Test.YtdelgnflcfhhkaaGreatDoorFlK
import Derived.Test.YtdelgnflcfhhkaaGreatDoorFlG
import Derived.Test.YtdelgnflcfhhkaaGreatDoorPSz
set_option linter.unusedVariables false
namespace Go.Wk.YtdelgnflcfhhkaaGreatDoor
open Go Go.Wk Go.Proofs

/-- what holds of what was read -/
def Has {α : Type} (r : Rdr α) (P : α → Prop) : Prop := ∀ t x, (r t x).1.e = 0 → P (r t x).2
section
variable {α β : Type}
theorem has_ret {a : α} {P : α → Prop} (h : P a) : Has (Rdr.ret a) P := fun _ _ _ => h
theorem has_bind {r : Rdr α} {f : α → Rdr β} {P : α → Prop} {Q : β → Prop} (gf : ∀ a, Good (f a)) (h1 : Has r P) (h2 : ∀ a, P a → Has (f a) Q) : Has (r.bind f) Q := fun t x h => by
  have h : (f (r t x).2 t (r t x).1).1.e = 0 := h
  exact h2 _ (h1 t x ((gf _).e0 h)) t _ h
theorem has_any (r : Rdr α) : Has r fun _ => True := fun _ _ _ => trivial
theorem has_if {a : α} {r : Rdr α} {P : α → Prop} (h : Has r P) : Has (rIf a r) P := fun t x he => by
  unfold rIf at he ⊢
  split at he
  · rename_i h0; rw [if_pos h0]; exact h t x he
  · rename_i h0; exact absurd he h0
theorem has_rep {r : Rdr α} {P : α → Prop} (g : Good r) (h : Has r P) : ∀ k, Has (rRep r k) fun l => l.length = k ∧ ∀ a ∈ l, P a
  | 0 => has_ret ⟨rfl, fun a ha => by cases ha⟩
  | k + 1 => has_bind (fun l => good_bind g fun a => good_ret _) (has_rep g h k) fun l hl => has_bind (fun a => good_ret _) h fun a ha => has_ret ⟨by rw [List.length_append, hl.1]; rfl, fun b hb => by
    rcases List.mem_append.1 hb with hb | hb
    · exact hl.2 b hb
    · rw [List.mem_singleton.1 hb]; exact ha⟩
theorem has_repG {r : Rdr α} {P : α → Prop} (g : Good r) (h : Has r P) : ∀ k, Has (rRepG r k) fun l => l.length = k ∧ ∀ a ∈ l, P a
  | 0 => has_ret ⟨rfl, fun a ha => by cases ha⟩
  | k + 1 => has_bind (fun l => good_if _ (good_bind g fun a => good_ret _)) (has_repG g h k) fun l hl => has_if (has_bind (fun a => good_ret _) h fun a ha => has_ret ⟨by rw [List.length_append, hl.1]; rfl, fun b hb => by
    rcases List.mem_append.1 hb with hb | hb
    · exact hl.2 b hb
    · rw [List.mem_singleton.1 hb]; exact ha⟩)
end
theorem has_raw (n : Int) : Has (rRaw n) fun l => (l.length : Int) = n := fun t x he => by
  have h0 := (good_raw n).e0 he
  unfold rRaw at he ⊢
  rw [if_pos h0] at he ⊢
  have he : rrE t x.i n = 0 := he
  obtain ⟨h1, h2⟩ := rrE_ok he
  show ((rrV t x.i n).length : Int) = n
  unfold rrV
  rw [if_pos he]
  have : (cut t x.i n.toNat).length = n.toNat := by
    unfold cut
    rw [List.length_take, List.length_drop]
    omega
  omega
theorem has_row (n : Int) : Has (rRow n) fun l => (l.length : Int) = n := fun t x he => by
  rw [rRow_raw] at he ⊢
  have := has_raw n t x he
  show ((List.map UInt8.toInt8 (rRaw n t x).2).length : Int) = n
  rw [List.length_map]; exact this
theorem has_chk (p : Bool) {e : Int} (hne : e ≠ 0) : Has (rChk p e) fun _ => p = true := fun t x he => by
  have h0 := (good_chk p e).e0 he
  unfold rChk at he
  rw [if_pos h0] at he
  cases p with
  | false => exact absurd he hne
  | true => rfl
theorem has_txt : Has rTxt fun l => l.length ≤ 64 := by
  unfold rTxt
  exact has_bind (fun n => good_bind (good_chk _ _) fun _ => good_raw _) (has_any _) fun n _ => has_bind (fun _ => good_raw _) (has_chk _ (by decide)) fun _ hp => fun t x he => by
    have := has_raw n t x he
    have hp : n ≤ 64 := of_decide_eq_true hp
    omega
theorem has_voc (n : Nat) : Has (rVoc n) fun V => V.texts.length = n ∧ (∀ t ∈ V.texts, t.length ≤ 64) ∧ V.merges.length ≤ 1024 := by
  unfold rVoc
  refine has_bind (fun l => good_bind (good_num _) fun k => good_bind (good_chk _ _) fun _ => good_bind (good_repG good_mrg _) fun g => good_ret _) (has_rep good_txt has_txt n) fun l hl =>
    has_bind (fun k => good_bind (good_chk _ _) fun _ => good_bind (good_repG good_mrg _) fun g => good_ret _) (has_any _) fun k _ =>
    has_bind (fun _ => good_bind (good_repG good_mrg _) fun g => good_ret _) (has_chk _ (by decide)) fun _ hp =>
    has_bind (fun g => good_ret _) (has_repG good_mrg (has_any _) _) fun g hg => has_ret ⟨hl.1, hl.2, ?_⟩
  have hp : k ≤ 1024 := of_decide_eq_true hp
  have := hg.1
  show g.length ≤ 1024
  omega
theorem has_rows (many : List Int) (c : Nat) (hc : ∀ k, many.getD k 0 ≤ c) : ∀ k, Has (rRows many k) fun l => l.length = k ∧ ∀ r ∈ l, r.length ≤ c
  | 0 => has_ret ⟨rfl, fun a ha => by cases ha⟩
  | k + 1 => by
    unfold rRows
    exact has_bind (fun l => good_bind (good_row _) fun a => good_ret _) (has_rows many c hc k) fun l hl => has_bind (fun a => good_ret _) (has_row _) fun a ha => has_ret ⟨by rw [List.length_append, hl.1]; rfl, fun b hb => by
      rcases List.mem_append.1 hb with hb | hb
      · exact hl.2 b hb
      · rw [List.mem_singleton.1 hb]
        have := hc k
        omega⟩
/-- the sizes of a model that was read -/
structure SmQ (m : Md) : Prop where
  tx : m.V.texts.length ≤ 512
  tl : ∀ t ∈ m.V.texts, t.length ≤ 64
  mg : m.V.merges.length ≤ 1024
  bs : m.bs.length ≤ 8
  rw : m.e.length ≤ 100000 ∧ m.cos.length ≤ 100000 ∧ m.sin.length ≤ 100000 ∧ m.bend.length ≤ 100000 ∧ m.gain.length ≤ 100000 ∧ m.un.length ≤ 100000
  br : ∀ b ∈ m.bs, ∀ r ∈ b.frs, r.length ≤ 100000
theorem many_le {s : Shp} (h : okS s) : ∀ k, (manyQ s).getD k 0 ≤ (100000 : Nat) := fun k => by
  obtain ⟨a, b, c, d, e, f, g, i⟩ := h
  have h3 := mul_bd (a := s.dim) (b := s.dim) (m := 64) (k := 64) (by omega) (by omega) (by omega) (by omega)
  have h4 := mul_bd (a := s.hid) (b := s.dim) (m := 256) (k := 64) (by omega) (by omega) (by omega) (by omega)
  match k with
  | 0 => show s.dim ≤ _; omega
  | 1 => show s.dim * s.dim ≤ _; omega
  | 2 => show s.dim * s.dim ≤ _; omega
  | 3 => show s.dim * s.dim ≤ _; omega
  | 4 => show s.dim * s.dim ≤ _; omega
  | 5 => show s.dim ≤ _; omega
  | 6 => show s.hid * s.dim ≤ _; omega
  | 7 => show s.hid * s.dim ≤ _; omega
  | 8 => show s.hid * s.dim ≤ _; omega
  | k + 9 => show (0 : Int) ≤ _; omega
theorem has_blk {s : Shp} (h : okS s) : Has (rBlk s) fun b => ∀ r ∈ b.frs, r.length ≤ 100000 := by
  unfold rBlk
  refine has_bind (fun l => good_bind (good_rows _ 9) fun g => good_ret _) (has_any _) fun l _ => has_bind (fun g => good_ret _) (has_rows _ 100000 (many_le h) 9) fun g hg => has_ret ?_
  obtain ⟨h1, h2⟩ := hg
  obtain ⟨g0, g1, g2, g3, g4, g5, g6, g7, g8, rfl⟩ := nine9 h1
  exact h2
theorem has_body {s : Shp} (h : okS s) : Has (rBody s (halfS s)) SmQ := by
  have h' := h
  have hh := half_bd h
  obtain ⟨a, b, c, d, e, f, g, i⟩ := h
  have h1 := mul_bd (a := s.voc) (b := s.dim) (m := 512) (k := 64) (by omega) (by omega) (by omega) (by omega)
  have h2 := mul_bd (a := s.ctx) (b := halfS s) (m := 512) (k := 32) (by omega) (by omega) (by omega) (by omega)
  unfold rBody
  refine has_bind (fun es => good_bind (good_num _) fun ls => good_bind (good_voc _) fun V => good_bind (good_row _) fun e => good_bind (good_row _) fun c => good_bind (good_row _) fun n => good_bind (good_rep (good_blk s) _) fun bs => good_bind (good_row _) fun bend => good_bind (good_row _) fun g => good_bind (good_row _) fun u => good_ret _) (has_any _) fun es _ =>
    has_bind (fun ls => good_bind (good_voc _) fun V => good_bind (good_row _) fun e => good_bind (good_row _) fun c => good_bind (good_row _) fun n => good_bind (good_rep (good_blk s) _) fun bs => good_bind (good_row _) fun bend => good_bind (good_row _) fun g => good_bind (good_row _) fun u => good_ret _) (has_any _) fun ls _ =>
    has_bind (fun V => good_bind (good_row _) fun e => good_bind (good_row _) fun c => good_bind (good_row _) fun n => good_bind (good_rep (good_blk s) _) fun bs => good_bind (good_row _) fun bend => good_bind (good_row _) fun g => good_bind (good_row _) fun u => good_ret _) (has_voc _) fun V hV =>
    has_bind (fun e => good_bind (good_row _) fun c => good_bind (good_row _) fun n => good_bind (good_rep (good_blk s) _) fun bs => good_bind (good_row _) fun bend => good_bind (good_row _) fun g => good_bind (good_row _) fun u => good_ret _) (has_row _) fun le he =>
    has_bind (fun c => good_bind (good_row _) fun n => good_bind (good_rep (good_blk s) _) fun bs => good_bind (good_row _) fun bend => good_bind (good_row _) fun g => good_bind (good_row _) fun u => good_ret _) (has_row _) fun lc hc =>
    has_bind (fun n => good_bind (good_rep (good_blk s) _) fun bs => good_bind (good_row _) fun bend => good_bind (good_row _) fun g => good_bind (good_row _) fun u => good_ret _) (has_row _) fun ln hn =>
    has_bind (fun bs => good_bind (good_row _) fun bend => good_bind (good_row _) fun g => good_bind (good_row _) fun u => good_ret _) (has_rep (good_blk s) (has_blk h') _) fun bs hb =>
    has_bind (fun bend => good_bind (good_row _) fun g => good_bind (good_row _) fun u => good_ret _) (has_row _) fun lb hlb =>
    has_bind (fun g => good_bind (good_row _) fun u => good_ret _) (has_row _) fun lg hlg =>
    has_bind (fun u => good_ret _) (has_row _) fun lu hlu => has_ret ⟨?_, hV.2.1, hV.2.2, ?_, ?_, hb.2⟩
  · show V.texts.length ≤ 512
    rw [hV.1]; omega
  · show bs.length ≤ 8
    rw [hb.1]; omega
  · show le.length ≤ 100000 ∧ lc.length ≤ 100000 ∧ ln.length ≤ 100000 ∧ lb.length ≤ 100000 ∧ lg.length ≤ 100000 ∧ lu.length ≤ 100000
    omega
theorem has_mod : Has rMod SmQ := by
  unfold rMod
  refine has_bind (fun s => good_body s _) (P := okS) ?_ fun s hs => has_body hs
  unfold rHead
  exact has_bind (fun l => good_bind (good_chk _ _) fun _ => good_ret _) (has_any _) fun l _ => has_bind (fun _ => good_ret _) (has_chk _ (by decide)) fun _ hp => has_ret (of_decide_eq_true hp)
theorem sm_q {m : LM} (h : SmQ m.p) : m.Sm := by
  obtain ⟨r1, r2, r3, r4, r5, r6⟩ := h.rw
  have r1 : m.e.xs.length ≤ 100000 := r1
  have r2 : m.cos.xs.length ≤ 100000 := r2
  have r3 : m.sin.xs.length ≤ 100000 := r3
  have r4 : m.bend.xs.length ≤ 100000 := r4
  have r5 : m.gain.xs.length ≤ 100000 := r5
  have r6 : m.un.xs.length ≤ 100000 := r6
  have hb : m.bs.length ≤ 8 := by have := h.bs; rwa [show m.p.bs.length = m.bs.length from List.length_map _] at this
  refine ⟨fun r hr => ?_, fun b hb' r hr => ?_, by omega, ?_⟩
  · have hr : r = m.e ∨ r = m.cos ∨ r = m.sin ∨ r = m.bend ∨ r = m.gain ∨ r = m.un := by simpa using hr
    rcases hr with rfl | rfl | rfl | rfl | rfl | rfl <;> omega
  · have := h.br (pBk b) (List.mem_map_of_mem hb') r.xs (by
      have hr : r = b.g1 ∨ r = b.g2 ∨ r = b.q ∨ r = b.k ∨ r = b.v ∨ r = b.o ∨ r = b.ga ∨ r = b.up ∨ r = b.dn := by simpa using hr
      rcases hr with rfl | rfl | rfl | rfl | rfl | rfl | rfl | rfl | rfl <;> simp [Bk.map])
    omega
  · have h1 : m.V.texts.length ≤ 512 := h.tx
    have h2 : ∀ t ∈ m.V.texts, t.length ≤ 64 := h.tl
    have h3 : m.V.merges.length ≤ 1024 := h.mg
    exact ⟨by omega, fun t ht => by have := h2 t ht; omega, by omega⟩
end Go.Wk.YtdelgnflcfhhkaaGreatDoor
