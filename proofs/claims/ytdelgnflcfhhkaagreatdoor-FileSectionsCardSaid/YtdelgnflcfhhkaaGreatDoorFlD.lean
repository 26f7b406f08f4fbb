/-
  Chapter 17: what is read was written so; files that are spoilt.
-/
import Derived.Test.YtdelgnflcfhhkaaGreatDoorFlC
set_option linter.unusedVariables false
namespace Go.Wk.YtdelgnflcfhhkaaGreatDoor
open Go Go.Wk Go.Proofs

theorem leB_cons (n : Int) (k : Nat) : leB n (k + 1) = byteAt n 0 :: leB (n / 256) k := by
  unfold leB
  rw [List.range_succ_eq_map, List.map_cons, List.map_map]
  congr 1
  refine List.map_congr_left fun i _ => ?_
  show byteAt n (i + 1) = byteAt (n / 256) i
  unfold byteAt
  rw [Int.ediv_ediv_of_nonneg (by omega), show (256 : Int) * 256 ^ i = 256 ^ (i + 1) by rw [Int.pow_succ, Int.mul_comm]]
theorem leB_leN : ∀ l : List UInt8, leB (leN l : Int) l.length = l
  | [] => rfl
  | b :: r => by
    have hb := b.toNat_lt
    have h1 : ((leN (b :: r) : Nat) : Int) / 256 = (leN r : Int) := by simp only [leN]; omega
    have h2 : ((leN (b :: r) : Nat) : Int) / 256 ^ 0 % 256 = (b.toNat : Int) := by simp only [leN]; omega
    rw [List.length_cons, leB_cons, h1, leB_leN r]
    unfold byteAt
    rw [h2, Int.toNat_natCast]
    congr 1
    exact UInt8.ofNat_toNat
theorem rv_num0 {b : Int} (hb : b = 1 ∨ b = 2) : Rev (rNum b) fun B n => B = numB n b ∧ 0 ≤ n := fun t x hx he => by
  have h0 := (good_num b).e0 he
  unfold rNum at he ⊢
  rw [if_pos h0] at he ⊢
  have he : rnE t x.i b = 0 := he
  obtain ⟨h1, h2, h3⟩ := rnE_ok he
  show cut t x.i (rnA t x.i b - x.i) = numB (rnV t x.i b) b ∧ 0 ≤ rnV t x.i b
  unfold rnA rnV
  rw [if_pos he, if_pos he, show x.i + b.toNat - x.i = b.toNat by omega]
  have hl : (cut t x.i b.toNat).length = b.toNat := cut_len (by omega)
  have hlt := leN_lt (cut t x.i b.toNat)
  rw [hl] at hlt
  have hE : numE (leN (cut t x.i b.toNat)) b = 0 := by
    rcases hb with rfl | rfl
    · exact fit1 (by omega) (by have : (256 : Nat) ^ (1 : Int).toNat = 256 := rfl; omega)
    · exact fit2 (by omega) (by have : (256 : Nat) ^ (2 : Int).toNat = 65536 := rfl; omega)
  rw [numB_eq hE]
  have := leB_leN (cut t x.i b.toNat)
  rw [hl] at this
  exact ⟨this.symm, by omega⟩
theorem rv_num {b : Int} (hb : b = 1 ∨ b = 2) : Rev (rNum b) fun B n => B = numB n b := (rv_num0 hb).mono fun _ _ h => h.1
theorem rv_raw (n : Int) : Rev (rRaw n) fun B l => B = l ∧ (l.length : Int) = n := fun t x hx he => by
  have h0 := (good_raw n).e0 he
  unfold rRaw at he ⊢
  rw [if_pos h0] at he ⊢
  have he : rrE t x.i n = 0 := he
  obtain ⟨h1, h2⟩ := rrE_ok he
  show cut t x.i (rrA t x.i n - x.i) = rrV t x.i n ∧ ((rrV t x.i n).length : Int) = n
  unfold rrA rrV
  rw [if_pos he, if_pos he, show x.i + n.toNat - x.i = n.toNat by omega, cut_len (by omega)]
  exact ⟨rfl, by omega⟩
theorem wrw_back (l : List UInt8) : wrwB (l.map UInt8.toInt8) = l := by
  unfold wrwB
  rw [List.map_map]
  exact (List.map_congr_left fun x _ => by simp).trans (List.map_id _)
theorem rv_row (n : Int) : Rev (rRow n) fun B l => B = wrwB l ∧ (l.length : Int) = n := fun t x hx he => by
  rw [rRow_raw] at he ⊢
  have := rv_raw n t x hx he
  show _ = wrwB (List.map UInt8.toInt8 (rRaw n t x).2) ∧ ((List.map UInt8.toInt8 (rRaw n t x).2).length : Int) = n
  rw [wrw_back, List.length_map]
  exact this
theorem rv_chk (p : Bool) {e : Int} (hne : e ≠ 0) : Rev (rChk p e) fun B _ => B = [] ∧ p = true := fun t x hx he => by
  have h0 := (good_chk p e).e0 he
  unfold rChk at he ⊢
  rw [if_pos h0] at he ⊢
  cases p with
  | false => exact absurd he hne
  | true => exact ⟨by show cut t x.i (x.i - x.i) = []; rw [Nat.sub_self]; simp [cut], rfl⟩
theorem rv_if {α : Type} (a : α) {r : Rdr α} {P : List UInt8 → α → Prop} (g : Good r) (h : Rev r P) : Rev (rIf a r) P := fun t x hx he => by
  have h0 := (good_if a g).e0 he
  unfold rIf at he ⊢
  rw [if_pos h0] at he ⊢
  exact h t x hx he
theorem rv_rep {α : Type} {r : Rdr α} {enc : α → List UInt8} (g : Good r) (h : Rev r fun B a => B = enc a) : ∀ k, Rev (rRep r k) fun B l => B = l.flatMap enc ∧ l.length = k
  | 0 => (rev_ret []).mono fun b a ⟨h1, h2⟩ => by rw [h1, h2]; exact ⟨rfl, rfl⟩
  | k + 1 => by
    refine rev_bind (Q := fun l B m => ∃ a, B = enc a ∧ m = l ++ [a]) (good_rep g k) (fun l => good_bind g fun a => good_ret _) (rv_rep g h k) (fun l => rev_bind (Q := fun a b c => b = [] ∧ c = l ++ [a]) g (fun a => good_ret _) h (fun a => rev_ret _) fun a b c d h1 h2 => ⟨a, by rw [h1, h2.1, List.append_nil], h2.2⟩) ?_
    rintro l b c d ⟨h1, h2⟩ ⟨a, h3, h4⟩
    rw [h1, h3, h4, List.flatMap_append]
    exact ⟨by simp, by simp [h2]⟩
theorem rv_repG {α : Type} {r : Rdr α} {enc : α → List UInt8} (g : Good r) (h : Rev r fun B a => B = enc a) : ∀ k, Rev (rRepG r k) fun B l => B = l.flatMap enc ∧ l.length = k
  | 0 => (rev_ret []).mono fun b a ⟨h1, h2⟩ => by rw [h1, h2]; exact ⟨rfl, rfl⟩
  | k + 1 => by
    refine rev_bind (Q := fun l B m => ∃ a, B = enc a ∧ m = l ++ [a]) (good_repG g k) (fun l => good_if _ (good_bind g fun a => good_ret _)) (rv_repG g h k) (fun l => rv_if _ (good_bind g fun a => good_ret _) (rev_bind (Q := fun a b c => b = [] ∧ c = l ++ [a]) g (fun a => good_ret _) h (fun a => rev_ret _) fun a b c d h1 h2 => ⟨a, by rw [h1, h2.1, List.append_nil], h2.2⟩)) ?_
    rintro l b c d ⟨h1, h2⟩ ⟨a, h3, h4⟩
    rw [h1, h3, h4, List.flatMap_append]
    exact ⟨by simp, by simp [h2]⟩
/-- a reader, then others: what it read is known, and what the others read -/
theorem rv_seq {α β : Type} {r : Rdr α} {f : α → Rdr β} {P : List UInt8 → α → Prop} {S : List UInt8 → β → Prop} (gr : Good r) (gf : ∀ a, Good (f a)) (h1 : Rev r P) (h2 : ∀ a b, P b a → Rev (f a) fun c d => S (b ++ c) d) : Rev (r.bind f) S := fun t x hx he => by
  have he : (f (r t x).2 t (r t x).1).1.e = 0 := he
  have e1 := (gf _).e0 he
  have a1 := h1 t x hx e1
  have a2 := h2 _ _ a1 t _ (gr.le t x hx) he
  simp only at a2
  rw [← cut_cat (gr.mono t x) ((gf _).mono t _)] at a2
  exact a2
theorem rv_end {α : Type} (a : α) {S : List UInt8 → α → Prop} (h : S [] a) : Rev (Rdr.ret a) S := (rev_ret a).mono fun b c ⟨h1, h2⟩ => by rw [h1, h2]; exact h
theorem rv_txt : Rev rTxt fun B a => B = encT a := by
  unfold rTxt
  refine rv_seq (good_num _) (fun n => good_bind (good_chk _ _) fun _ => good_raw _) (rv_num (.inl rfl)) fun n b hb => rv_seq (good_chk _ _) (fun _ => good_raw _) (rv_chk _ (by decide)) fun _ c hc => (rv_raw n).mono fun d l ⟨h1, h2⟩ => ?_
  rw [hb, hc.1, h1, ← h2]
  rfl
theorem rv_mrg : Rev rMrg fun B a => B = encG a := by
  unfold rMrg
  refine rv_seq (good_num _) (fun a => good_bind (good_num _) fun b => good_bind (good_num _) fun c => good_ret _) (rv_num (.inr rfl)) fun a b1 h1 => rv_seq (good_num _) (fun b => good_bind (good_num _) fun c => good_ret _) (rv_num (.inr rfl)) fun b b2 h2 => rv_seq (good_num _) (fun c => good_ret _) (rv_num (.inr rfl)) fun c b3 h3 => rv_end _ ?_
  rw [h1, h2, h3, List.append_nil]
  rfl
theorem rv_voc (n : Nat) : Rev (rVoc n) fun B V => B = encV V := by
  unfold rVoc
  refine rv_seq (good_rep good_txt n) (fun l => good_bind (good_num _) fun k => good_bind (good_chk _ _) fun _ => good_bind (good_repG good_mrg _) fun g => good_ret _) (rv_rep good_txt rv_txt n) fun l b1 h1 =>
    rv_seq (good_num _) (fun k => good_bind (good_chk _ _) fun _ => good_bind (good_repG good_mrg _) fun g => good_ret _) (rv_num0 (.inr rfl)) fun k b2 h2 =>
    rv_seq (good_chk _ _) (fun _ => good_bind (good_repG good_mrg _) fun g => good_ret _) (rv_chk _ (by decide)) fun _ b3 h3 =>
    rv_seq (good_repG good_mrg _) (fun g => good_ret _) (rv_repG good_mrg rv_mrg _) fun g b4 h4 => rv_end _ ?_
  have hk : ((g.length : Nat) : Int) = k := by rw [h4.2]; omega
  rw [h1.1, h2.1, h3.1, h4.1, ← hk, List.append_nil]
  rfl
theorem rv_rows (many : List Int) : ∀ k, Rev (rRows many k) fun B L => B = L.flatMap wrwB ∧ L.length = k
  | 0 => (rev_ret []).mono fun b a ⟨h1, h2⟩ => by rw [h1, h2]; exact ⟨rfl, rfl⟩
  | k + 1 => by
    refine rv_seq (good_rows many k) (fun l => good_bind (good_row _) fun a => good_ret _) (rv_rows many k) fun l b h1 => rv_seq (good_row _) (fun a => good_ret _) (rv_row _) fun a c h2 => rv_end _ ?_
    rw [h1.1, h2.1, List.append_nil, List.flatMap_append]
    exact ⟨by simp, by simp [h1.2]⟩
theorem eight {α : Type} {l : List α} (h : l.length = 8) : ∃ a b c d e f g i, l = [a, b, c, d, e, f, g, i] := by
  match l, h with
  | [a, b, c, d, e, f, g, i], _ => exact ⟨a, b, c, d, e, f, g, i, rfl⟩
theorem nine9 {α : Type} {l : List α} (h : l.length = 9) : ∃ a b c d e f g i j, l = [a, b, c, d, e, f, g, i, j] := by
  match l, h with
  | [a, b, c, d, e, f, g, i, j], _ => exact ⟨a, b, c, d, e, f, g, i, j, rfl⟩
theorem six6 {α : Type} {l : List α} (h : l.length = 6) : ∃ a b c d e f, l = [a, b, c, d, e, f] := by
  match l, h with
  | [a, b, c, d, e, f], _ => exact ⟨a, b, c, d, e, f, rfl⟩
theorem rv_blk (s : Shp) : Rev (rBlk s) fun B b => B = encBk b := by
  unfold rBlk
  refine rv_seq (good_rep (good_num _) 8) (fun l => good_bind (good_rows _ 9) fun g => good_ret _) (rv_rep (enc := encN 1) (good_num _) (rv_num (.inl rfl)) 8) fun l b1 h1 => rv_seq (good_rows _ 9) (fun g => good_ret _) (rv_rows _ 9) fun g b2 h2 => rv_end _ ?_
  obtain ⟨h1, l1⟩ := h1
  obtain ⟨h2, l2⟩ := h2
  obtain ⟨a0, a1, a2, a3, a4, a5, a6, a7, rfl⟩ := eight l1
  obtain ⟨g0, g1, g2, g3, g4, g5, g6, g7, g8, rfl⟩ := nine9 l2
  rw [h1, h2, List.append_nil]
  rfl
theorem rv_body (s : Shp) (h : Int) : Rev (rBody s h) fun B m => B = encBody m ∧ m.s = s := by
  unfold rBody
  refine rv_seq (good_num _) (fun es => good_bind (good_num _) fun ls => good_bind (good_voc _) fun V => good_bind (good_row _) fun e => good_bind (good_row _) fun c => good_bind (good_row _) fun n => good_bind (good_rep (good_blk s) _) fun bs => good_bind (good_row _) fun bend => good_bind (good_row _) fun g => good_bind (good_row _) fun u => good_ret _) (rv_num (.inl rfl)) fun es b1 h1 =>
    rv_seq (good_num _) (fun ls => good_bind (good_voc _) fun V => good_bind (good_row _) fun e => good_bind (good_row _) fun c => good_bind (good_row _) fun n => good_bind (good_rep (good_blk s) _) fun bs => good_bind (good_row _) fun bend => good_bind (good_row _) fun g => good_bind (good_row _) fun u => good_ret _) (rv_num (.inl rfl)) fun ls b2 h2 =>
    rv_seq (good_voc _) (fun V => good_bind (good_row _) fun e => good_bind (good_row _) fun c => good_bind (good_row _) fun n => good_bind (good_rep (good_blk s) _) fun bs => good_bind (good_row _) fun bend => good_bind (good_row _) fun g => good_bind (good_row _) fun u => good_ret _) (rv_voc _) fun V b3 h3 =>
    rv_seq (good_row _) (fun e => good_bind (good_row _) fun c => good_bind (good_row _) fun n => good_bind (good_rep (good_blk s) _) fun bs => good_bind (good_row _) fun bend => good_bind (good_row _) fun g => good_bind (good_row _) fun u => good_ret _) (rv_row _) fun e b4 h4 =>
    rv_seq (good_row _) (fun c => good_bind (good_row _) fun n => good_bind (good_rep (good_blk s) _) fun bs => good_bind (good_row _) fun bend => good_bind (good_row _) fun g => good_bind (good_row _) fun u => good_ret _) (rv_row _) fun c b5 h5 =>
    rv_seq (good_row _) (fun n => good_bind (good_rep (good_blk s) _) fun bs => good_bind (good_row _) fun bend => good_bind (good_row _) fun g => good_bind (good_row _) fun u => good_ret _) (rv_row _) fun n b6 h6 =>
    rv_seq (good_rep (good_blk s) _) (fun bs => good_bind (good_row _) fun bend => good_bind (good_row _) fun g => good_bind (good_row _) fun u => good_ret _) (rv_rep (good_blk s) (rv_blk s) _) fun bs b7 h7 =>
    rv_seq (good_row _) (fun bend => good_bind (good_row _) fun g => good_bind (good_row _) fun u => good_ret _) (rv_row _) fun bend b8 h8 =>
    rv_seq (good_row _) (fun g => good_bind (good_row _) fun u => good_ret _) (rv_row _) fun g b9 h9 =>
    rv_seq (good_row _) (fun u => good_ret _) (rv_row _) fun u b10 h10 => rv_end _ ⟨?_, rfl⟩
  rw [h1, h2, h3, h4.1, h5.1, h6.1, h7.1, h8.1, h9.1, h10.1, List.append_nil]
  rfl
theorem rv_head : Rev rHead fun B s => B = encS s ∧ okS s := by
  unfold rHead
  refine rv_seq (good_rep (good_num _) 6) (fun l => good_bind (good_chk _ _) fun _ => good_ret _) (rv_rep (enc := encN 2) (good_num _) (rv_num (.inr rfl)) 6) fun l b1 h1 => rv_seq (good_chk _ _) (fun _ => good_ret _) (rv_chk _ (by decide)) fun _ b2 h2 => rv_end _ ?_
  obtain ⟨h1, l1⟩ := h1
  obtain ⟨a0, a1, a2, a3, a4, a5, rfl⟩ := six6 l1
  rw [h1, h2.1, List.append_nil, List.append_nil]
  exact ⟨rfl, of_decide_eq_true h2.2⟩
theorem rv_mod : Rev rMod fun B m => B = encM m := by
  unfold rMod
  refine rv_seq good_head (fun s => good_body s _) rv_head fun s b1 h1 => (rv_body s _).mono fun b2 m h2 => ?_
  rw [h1.1, h2.1, ← h2.2]
  rfl
end Go.Wk.YtdelgnflcfhhkaaGreatDoor
