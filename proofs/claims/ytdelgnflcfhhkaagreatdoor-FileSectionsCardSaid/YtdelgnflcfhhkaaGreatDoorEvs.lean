/-
  The walk kit of this repo, part 5: single operations, memory.
-/
import Derived.Test.YtdelgnflcfhhkaaGreatDoorEv
import Derived.Lib.AppendStr
import Derived.Deep.Quiet
set_option linter.unusedVariables false
set_option linter.unusedSimpArgs false
namespace Go.Wk
open Go Go.Lib

/-! ### worlds -/
/-- but for the blocks of `S`, what was there is as it was -/
structure Fr (S : Nat → Prop) (w w' : World) : Prop where
  os : w'.os = w.os
  tape : w'.tape = w.tape
  output : w'.output = w.output
  size : w.heap.size ≤ w'.heap.size
  block : ∀ b, b < w.heap.size → ¬ S b → w'.heap[b]? = w.heap[b]?
abbrev no : Nat → Prop := fun _ => False
theorem Fr.refl (S : Nat → Prop) (w : World) : Fr S w w := ⟨rfl, rfl, rfl, Nat.le_refl _, fun _ _ _ => rfl⟩
theorem Fr.mono {S S' : Nat → Prop} {w w' : World} (h : Fr S w w') (hs : ∀ b, b < w.heap.size → S b → S' b) : Fr S' w w' :=
  ⟨h.os, h.tape, h.output, h.size, fun b hb hn => h.block b hb fun x => hn (hs b hb x)⟩
theorem Fr.trans {S S' : Nat → Prop} {w w1 w2 : World} (h : Fr S w w1) (h' : Fr S' w1 w2) (hs : ∀ b, b < w.heap.size → S' b → S b) : Fr S w w2 :=
  ⟨h'.os.trans h.os, h'.tape.trans h.tape, h'.output.trans h.output, Nat.le_trans h.size h'.size,
    fun b hb hn => (h'.block b (Nat.lt_of_lt_of_le hb h.size) fun x => hn (hs b hb x)).trans (h.block b hb hn)⟩
theorem Fr.tr {S : Nat → Prop} {w w1 w2 : World} (h : Fr S w w1) (h' : Fr no w1 w2) : Fr S w w2 := h.trans h' fun _ _ x => x.elim
theorem Fr.tr0 {S : Nat → Prop} {w w1 w2 : World} (h : Fr no w w1) (h' : Fr S w1 w2) : Fr S w w2 := (h.mono fun _ _ x => x.elim).trans h' fun _ _ x => x
theorem Fr.of_grown {w w' : World} {row : Option Nat} (h : w.grownBy w' row) : Fr (fun b => row = some b) w w' :=
  ⟨h.os, h.tape, h.output, h.size, fun b hb hn => h.block b hb fun e => hn e.symm⟩
theorem Fr.alloc (w : World) (o : Obj) : Fr no w (w.alloc o) := ⟨rfl, rfl, rfl, by simp, fun b hb _ => RowKit.Below.heap_alloc w o b hb⟩
theorem Fr.drew (w : World) : Fr no w w.drew := ⟨rfl, rfl, rfl, Nat.le_refl _, fun _ _ _ => rfl⟩
theorem Fr.draw (w : World) : Fr no w { w with drawn := w.drawn + 1 } := ⟨rfl, rfl, rfl, Nat.le_refl _, fun _ _ _ => rfl⟩
theorem Fr.setCell (w : World) (p : Addr) (v : Value) : Fr (fun b => b = p.block) w (w.setCell p v) :=
  ⟨rfl, rfl, rfl, by simp [World.setCell], fun b hb hn => by
    simp only [World.setCell, Array.getElem?_modify]
    rw [if_neg (fun e => hn e.symm)]⟩
theorem Fr.below {S : Nat → Prop} {w w' : World} (h : Fr S w w') {B : Nat} (hB : B ≤ w.heap.size) (hs : ∀ b, b < B → ¬ S b) : RowKit.Below B w w' :=
  ⟨h.os, h.tape, h.output, h.size, fun k hk => h.block k (Nat.lt_of_lt_of_le hk hB) (hs k hk)⟩

/-- a block, whole -/
def Blk (w : World) (b : Nat) (cs : List Value) (t : TypeId) : Prop := w.heap[b]? = some (.cells ⟨cs⟩ t (0, 0))
theorem Blk.lt {w : World} {b : Nat} {cs : List Value} {t : TypeId} (h : Blk w b cs t) : b < w.heap.size := (Array.getElem?_eq_some_iff.1 h).1
theorem Blk.fr {S : Nat → Prop} {w w' : World} {b : Nat} {cs : List Value} {t : TypeId} (h : Blk w b cs t) (hf : Fr S w w') (hn : ¬ S b) : Blk w' b cs t := by
  unfold Blk; rw [hf.block b h.lt hn]; exact h
theorem Blk.fr0 {w w' : World} {b : Nat} {cs : List Value} {t : TypeId} (h : Blk w b cs t) (hf : Fr no w w') : Blk w' b cs t := h.fr hf id
theorem Blk.cell {w : World} {b : Nat} {cs : List Value} {t : TypeId} (h : Blk w b cs t) {o : Nat} {v : Value} (hv : nthV cs o = some v) : w.cell? ⟨b, o, none⟩ = some v := by
  unfold Blk at h
  rw [nthV_eq] at hv
  simp [World.cell?, h, hv]
theorem Blk.frozen {w : World} {b : Nat} {cs : List Value} {t : TypeId} (h : Blk w b cs t) (o : Nat) : w.frozen? ⟨b, o, none⟩ = false := by
  unfold Blk at h
  simp [World.frozen?, h]
theorem Blk.new (w : World) (cs : List Value) (t : TypeId) : Blk (w.alloc (.cells ⟨cs⟩ t)) w.heap.size cs t := heap_alloc_new w _
/-- the list with one cell written -/
def setV : List Value → Nat → Value → List Value
  | [], _, _ => []
  | _ :: r, 0, v => v :: r
  | x :: r, n + 1, v => x :: setV r n v
theorem setV_eq : ∀ (l : List Value) (n : Nat) (v : Value), setV l n v = l.set n v
  | [], n, v => by simp [setV]
  | x :: r, 0, v => by simp [setV]
  | x :: r, n + 1, v => by simpa [setV] using setV_eq r n v
theorem Blk.set {w : World} {b : Nat} {cs : List Value} {t : TypeId} (h : Blk w b cs t) (o : Nat) (v : Value) : Blk (w.setCell ⟨b, o, none⟩ v) b (setV cs o v) t := by
  unfold Blk at *
  simp only [World.setCell, Array.getElem?_modify, if_true, h, Option.map_some, setV_eq]
  simp

/-- a list of cells that can be read from `A` on -/
def Cs (w : World) (A : Option Addr) (xs : List Value) : Prop :=
  ∀ j u, xs[j]? = some u → ∃ b o, A = some ⟨b, o, none⟩ ∧ w.cell? ⟨b, o + j, none⟩ = some u
theorem Cs.nil (w : World) (A : Option Addr) : Cs w A [] := fun j u h => by simp at h
theorem Cs.at {w : World} {b o : Nat} {xs : List Value} (h : Cs w (some ⟨b, o, none⟩) xs) {j : Nat} {u : Value} (hj : xs[j]? = some u) : w.cell? ⟨b, o + j, none⟩ = some u := by
  obtain ⟨b', o', e, hc⟩ := h j u hj
  cases e; exact hc
theorem cell_lt {w : World} {p : Addr} {v : Value} (h : w.cell? p = some v) : p.block < w.heap.size := World.block_lt_of_cell? w p h
theorem cell_fr {S : Nat → Prop} {w w' : World} {p : Addr} {v : Value} (h : w.cell? p = some v) (hf : Fr S w w') (hn : ¬ S p.block) : w'.cell? p = some v :=
  (World.cell?_of_block (hf.block p.block (cell_lt h) hn)).trans h
theorem Cs.fr {S : Nat → Prop} {w w' : World} {A : Option Addr} {xs : List Value} (h : Cs w A xs) (hf : Fr S w w') (hn : ∀ a, A = some a → ¬ S a.block) : Cs w' A xs := fun j u hj => by
  obtain ⟨b, o, e, hc⟩ := h j u hj
  exact ⟨b, o, e, cell_fr hc hf (fun x => hn _ e x)⟩
theorem Cs.fr0 {w w' : World} {A : Option Addr} {xs : List Value} (h : Cs w A xs) (hf : Fr no w w') : Cs w' A xs := h.fr hf fun _ _ => id
theorem Cs.take {w : World} {A : Option Addr} {xs : List Value} (h : Cs w A xs) (n : Nat) : Cs w A (xs.take n) := fun j u hj => by
  rw [List.getElem?_take] at hj
  split at hj
  · exact h j u hj
  · cases hj
theorem Cs.of_blk {w : World} {b : Nat} {cs : List Value} {t : TypeId} (h : Blk w b cs t) : Cs w (some ⟨b, 0, none⟩) cs := fun j u hj =>
  ⟨b, 0, rfl, by rw [Nat.zero_add]; exact h.cell (by rw [nthV_eq]; exact hj)⟩

/-- a row of the call's own: the kit's `ownsRow`, from any block on -/
abbrev Own (w : World) (e sz : Nat) (v : Value) (n : Nat) (xs : List Value) : Prop := w.ownsRow 0 e sz v n xs
theorem Own.nil (w : World) (e sz : Nat) : Own w e sz (.slice none 0 0) 0 [] := World.ownsRow_nil w 0 e sz
theorem Own.lt {w : World} {e sz : Nat} {v : Value} {n : Nat} {xs : List Value} (h : Own w e sz v n xs) {g : Nat} (hg : v.ownBlock = some g) : g < w.heap.size := (World.ownsRow.lt h g hg).2
theorem Own.fr {S : Nat → Prop} {w w' : World} {e sz : Nat} {v : Value} {n : Nat} {xs : List Value} (h : Own w e sz v n xs) (hf : Fr S w w') (hn : ∀ g, v.ownBlock = some g → ¬ S g) : Own w' e sz v n xs := by
  refine ⟨h.1, ?_⟩
  rcases h.2 with h2 | ⟨g, cap, cur, rfl, hb, hgg, rest⟩
  · exact .inl h2
  · exact .inr ⟨g, cap, cur, rfl, hb, by rw [hf.block g (Array.getElem?_eq_some_iff.1 hgg).1 (hn g rfl)]; exact hgg, rest⟩
theorem Own.fr0 {w w' : World} {e sz : Nat} {v : Value} {n : Nat} {xs : List Value} (h : Own w e sz v n xs) (hf : Fr no w w') : Own w' e sz v n xs := h.fr hf fun _ _ => id
theorem Own.slice {w : World} {e sz : Nat} {v : Value} {n : Nat} {xs : List Value} (h : Own w e sz v n xs) : ∃ A c, v = .slice A n c ∧ Cs w A xs ∧ (∀ a, A = some a → v.ownBlock = some a.block ∧ a.off = 0 ∧ a.spot = none) := by
  rcases h.2 with ⟨rfl, rfl⟩ | ⟨g, cap, cur, rfl, hb, hgg, hn, hc, hs, ht⟩
  · refine ⟨none, 0, rfl, ?_, fun a h => by cases h⟩
    have : xs = [] := List.eq_nil_of_length_eq_zero (by simpa using h.1)
    subst this; exact Cs.nil _ _
  · refine ⟨_, _, rfl, fun j u hj => ⟨g, 0, rfl, ?_⟩, fun a h => by cases h; exact ⟨rfl, rfl, rfl⟩⟩
    have := h.cells (g := g) rfl j u hj
    rwa [Addr.add_lit] at this
theorem Own.len {w : World} {e sz : Nat} {v : Value} {n : Nat} {xs : List Value} (h : Own w e sz v n xs) : xs.length = n * sz := h.1

/-! ### appends -/
section
variable {P : Program} (w : World)
theorem run_app {t ty e : TypeId} {i : TypeInfo} {z : Value} {size : Nat} (ht : P.underlying t = some (.slice e)) (hi : P.info? e = some i) (hz : i.zero = some z)
    (hsize : i.size = size) (hzs : z.cells.size = size) (hsz : 0 < size)
    {v : Value} {n : Nat} {xs : List Value} (hown : Own w e size v n xs)
    {A : Option Addr} {m c : Nat} {news : List Value} (hl : news.length = m * size) (hnews : Cs w A news) (h1 : ∀ u ∈ news, u.oneCell' = true)
    (hbytes : (n + m) * (i.bytes + 1) ≤ 140737488355328) :
    ∃ v' w', (Builtin.append_ #[t, t] ty #[v, .slice A m c]).run P w = .ok v' w' ∧ Own w' e size v' (n + m) (xs ++ news) ∧ Fr (fun b => v.ownBlock = some b) w w' ∧
      (v'.ownBlock = v.ownBlock ∨ v'.ownBlock = some w.heap.size) := by
  have hb1 : (n + m) * i.bytes ≤ 140737488355328 := Nat.le_trans (Nat.mul_le_mul_left _ (by omega)) hbytes
  have hnm : n + m ≤ 140737488355328 := Nat.le_trans (Nat.le_mul_of_pos_right _ (by omega)) hbytes
  have h63 : n + m ≤ maxLen := by unfold maxLen; omega
  -- the source's address may be nil only if nothing comes
  have hA : m = 0 ∨ ∃ b o, A = some ⟨b, o, none⟩ := by
    rcases Nat.eq_zero_or_pos m with h | h
    · exact .inl h
    · right
      have hlt : 0 < news.length := by rw [hl]; exact Nat.mul_pos h hsz
      obtain ⟨b, o, e1, _⟩ := hnews 0 news[0] (by simp [hlt])
      exact ⟨b, o, e1⟩
  have hnews' : ∀ a, A = some a → ∀ j u, news[j]? = some u → w.cell? (a.add j) = some u := by
    intro a ha j u hj
    obtain ⟨b, o, e1, hc⟩ := hnews j u hj
    rw [ha] at e1; cases e1
    have : (⟨b, o, none⟩ : Addr).add j = ⟨b, o + j, none⟩ := by unfold Addr.add; split <;> simp_all
    rw [this]; exact hc
  have hlen : (xs ++ news).length = (n + m) * size := by rw [List.length_append, hown.1, hl, Nat.add_mul]
  subst hsize
  have grown : ∀ (old : Nat), old < n + m →
      Own (w.drew.alloc (.cells (xs.toArray ++ news.toArray ++ Builtin.zeroCells z.cells (grownCap w (n + m) old e - (n + m))) e)) e i.size
        (.slice (some ⟨w.heap.size, 0, none⟩) (n + m) (grownCap w (n + m) old e)) (n + m) (xs ++ news) := by
    intro old ho
    have hge := grownCap_ge w (n + m) old e
    have hcm : grownCap w (n + m) old e ≤ maxLen := grownCap_le_maxLen w (n + m) old e h63
    refine ⟨hlen, .inr ⟨w.heap.size, _, _, rfl, Nat.zero_le _, heap_alloc_new w.drew _, hge, hcm, ?_, ?_⟩⟩
    · simp only [Array.size_append, List.size_toArray, size_zeroCells, hzs, hown.1, hl, ← Nat.add_mul]
      congr 1
      omega
    · simp only [Array.toList_append, List.append_assoc]
      rw [← List.append_assoc, ← hlen]
      exact List.take_left
  have hfr : ∀ (S : Nat → Prop) (o : Obj), Fr S w (w.drew.alloc o) := fun S o => ((Fr.drew w).tr (Fr.alloc _ o)).mono fun _ _ x => x.elim
  rcases hown.2 with ⟨rfl, rfl⟩ | ⟨g, cap, cur, rfl, hbg, hg, hnc, hcm, hcs, htake⟩
  · have hx : xs = [] := List.eq_nil_of_length_eq_zero (by simpa using hown.1)
    subst hx
    rcases hA with rfl | ⟨b, o, rfl⟩
    · have hn : news = [] := List.eq_nil_of_length_eq_zero (by simpa using hl)
      subst hn
      refine ⟨.slice none 0 0, w, ?_, World.ownsRow_nil w 0 e i.size, Fr.refl _ _, .inl rfl⟩
      cases A <;> simp [Builtin.append_, run_underlying ht, sizeOf, typeInfo, hi, Builtin.lenOf, Builtin.firstCells, loadCells, loadCellsFrom]
    · by_cases hm : m = 0
      · subst hm
        have hn : news = [] := List.eq_nil_of_length_eq_zero (by simpa using hl)
        subst hn
        refine ⟨.slice none 0 0, w, ?_, World.ownsRow_nil w 0 e i.size, Fr.refl _ _, .inl rfl⟩
        simp [Builtin.append_, run_underlying ht, sizeOf, typeInfo, hi, Builtin.lenOf, Builtin.firstCells, loadCells, loadCellsFrom]
      · have hr := run_append_nil (P := P) w t ty e i z ht hi hz ⟨b, o, none⟩ m c news hl (hnews' _ rfl) (by omega) (by omega) (by have hb := hb1; simp only [Nat.zero_add] at hb; omega)
        have hgr := grown 0 (by omega)
        simp only [Nat.zero_add, List.nil_append, Array.empty_append] at hgr ⊢
        exact ⟨_, _, hr, hgr, hfr _ _, .inr rfl⟩
  · rcases hA with rfl | ⟨b, o, rfl⟩
    · have hn : news = [] := List.eq_nil_of_length_eq_zero (by simpa using hl)
      subst hn
      refine ⟨_, w, ?_, by simpa using hown, Fr.refl _ _, .inl rfl⟩
      cases A <;> simp [Builtin.append_, run_underlying ht, sizeOf, typeInfo, hi, Builtin.lenOf, Builtin.firstCells, loadCells, loadCellsFrom, hnc, storeCells]
    · by_cases hroom : n + m ≤ cap
      · have hfit : n * i.size + news.length ≤ cur.size := by rw [hl, hcs, ← Nat.add_mul]; exact Nat.mul_le_mul_right _ hroom
        have hr := run_append_room (P := P) w t ty e i ht hi g n cap cur hg ⟨b, o, none⟩ m c news hl (hnews' _ rfl) h1 hroom hfit
        refine ⟨_, _, hr, ⟨hlen, .inr ⟨g, cap, _, rfl, hbg, setRow_heap w g cur _ e _ hg, hroom, hcm, ?_, ?_⟩⟩, Fr.of_grown ⟨rfl, rfl, rfl, by simp, fun k _ hk => setRow_other w g k _ (fun e => hk (by simp [Value.ownBlock, e]))⟩, .inl rfl⟩
        · simp only [List.size_toArray, List.length_append, List.length_take, List.length_drop, Array.length_toList]
          omega
        · rw [htake, ← hlen]
          exact List.take_left
      · have holds : ∀ j u, xs[j]? = some u → w.cell? ((⟨g, 0, none⟩ : Addr).add j) = some u := hown.cells (g := g) rfl
        have hr := run_append_grow (P := P) w t ty e i z ht hi hz ⟨g, 0, none⟩ n cap xs hown.1 holds ⟨b, o, none⟩ m c news hl (hnews' _ rfl) (by omega) (by omega) (growslice_fits (by omega) hb1)
        exact ⟨_, _, hr, grown cap (by omega), hfr _ _, .inr rfl⟩

/-- a byte, as a value -/
abbrev bv (b : UInt8) : Value := .int .u8 (b.toNat : Int)
theorem run_app_str {t u ty e : TypeId} {i : TypeInfo} (ht : P.underlying t = some (.slice e)) (hu : P.underlying u = some .string) (hi : P.info? e = some i) (hz : i.zero = some (.int .u8 0))
    (hsize : i.size = 1) (hby : i.bytes = 1)
    {v : Value} {n : Nat} {xs : List Value} (hown : Own w e 1 v n xs) (s : List UInt8)
    (hbytes : n + s.length ≤ 140737488355328) :
    ∃ v' w', (Builtin.append_ #[t, u] ty #[v, .string (sOf s)]).run P w = .ok v' w' ∧ Own w' e 1 v' (n + s.length) (xs ++ s.map bv) ∧ Fr (fun b => v.ownBlock = some b) w w' ∧
      (v'.ownBlock = v.ownBlock ∨ v'.ownBlock = some w.heap.size) := by
  have hsz : (sOf s).size = s.length := rfl
  have hcells : strCells (sOf s) = s.map bv := by simp [strCells]
  have h63 : n + s.length ≤ maxLen := by unfold maxLen; omega
  have hxl : xs.length = n := by simpa using hown.1
  have hlen : (xs ++ s.map bv).length = (n + s.length) * 1 := by rw [List.length_append, hxl, List.length_map, Nat.mul_one]
  have grown : ∀ (old : Nat), old < n + s.length →
      Own (w.drew.alloc (.cells (xs.toArray ++ (s.map bv).toArray ++ Builtin.zeroCells (Value.int .u8 0).cells (grownCap w (n + s.length) old e - (n + s.length))) e)) e 1
        (.slice (some ⟨w.heap.size, 0, none⟩) (n + s.length) (grownCap w (n + s.length) old e)) (n + s.length) (xs ++ s.map bv) := by
    intro old ho
    have hge := grownCap_ge w (n + s.length) old e
    have hcm : grownCap w (n + s.length) old e ≤ maxLen := grownCap_le_maxLen w (n + s.length) old e h63
    refine ⟨hlen, .inr ⟨w.heap.size, _, _, rfl, Nat.zero_le _, heap_alloc_new w.drew _, hge, hcm, ?_, ?_⟩⟩
    · have hz1 : (Value.int IntKind.u8 0).cells.size = 1 := rfl
      simp only [Array.size_append, List.size_toArray, size_zeroCells, hz1, hxl, List.length_map]
      omega
    · simp only [Array.toList_append, List.append_assoc]
      rw [← List.append_assoc, ← hlen]
      exact List.take_left
  have hfr : ∀ (S : Nat → Prop) (o : Obj), Fr S w (w.drew.alloc o) := fun S o => ((Fr.drew w).tr (Fr.alloc _ o)).mono fun _ _ x => x.elim
  rcases hown.2 with ⟨rfl, rfl⟩ | ⟨g, cap, cur, rfl, hbg, hg, hnc, hcm, hcs, htake⟩
  · have hx : xs = [] := List.eq_nil_of_length_eq_zero hxl
    subst hx
    by_cases hm : s.length = 0
    · have hn : s = [] := List.eq_nil_of_length_eq_zero hm
      subst hn
      refine ⟨.slice none 0 0, w, ?_, World.ownsRow_nil w 0 e 1, Fr.refl _ _, .inl rfl⟩
      simp [Builtin.append_, run_underlying ht, run_underlying hu, sizeOf, typeInfo, hi, Builtin.lenOf, Builtin.firstCells, ByteArray.size]
    · have hr := run_append_nil_string (P := P) w t u ty e i (.int .u8 0) ht hu hi hz (sOf s) (by rw [hsz]; omega) (by rw [hsz]; omega) (by rw [hsz, hby]; omega)
      have hgr := grown 0 (by omega)
      simp only [Nat.zero_add, List.nil_append, Array.empty_append] at hgr ⊢
      simp only [hsz] at hr
      refine ⟨_, _, hr, ?_, hfr _ _, .inr rfl⟩
      have e1 : Array.map (fun b : UInt8 => Value.int IntKind.u8 (b.toNat : Int)) (sOf s).data = (s.map bv).toArray := by simp
      rw [e1]; exact hgr
  · by_cases hroom : n + s.length ≤ cap
    · have hfit : n + (sOf s).size ≤ cur.size := by rw [hcs, hsz]; omega
      have hr := run_append_room_string (P := P) w t u ty e i ht hu hi hsize g n cap cur hg (sOf s) (by rw [hsz]; exact hroom) hfit
      rw [hcells] at hr
      simp only [hsz] at hr
      refine ⟨_, _, hr, ⟨hlen, .inr ⟨g, cap, _, rfl, hbg, setRow_heap w g cur _ e _ hg, hroom, hcm, ?_, ?_⟩⟩, Fr.of_grown ⟨rfl, rfl, rfl, by simp, fun k _ hk => setRow_other w g k _ (fun e => hk (by simp [Value.ownBlock, e]))⟩, .inl rfl⟩
      · simp only [List.size_toArray, List.length_append, List.length_take, List.length_drop, Array.length_toList, List.length_map]
        rw [hsz] at hfit
        omega
      · have : cur.toList.take n = xs := by simpa using htake
        rw [this, ← hlen]
        exact List.take_left
    · have holds : ∀ j u, xs[j]? = some u → w.cell? ((⟨g, 0, none⟩ : Addr).add j) = some u := hown.cells (g := g) rfl
      have hr := run_append_grow_string (P := P) w t u ty e i (.int .u8 0) ht hu hi hz ⟨g, 0, none⟩ n cap xs (by rw [hsize]; exact hown.1) holds (sOf s) (by rw [hsz]; omega) (by rw [hsz]; omega) (by rw [hsz]; exact growslice_fits (by omega) (by rw [hby]; omega))
      rw [hcells] at hr
      simp only [hsz] at hr
      exact ⟨_, _, hr, grown cap (by omega), hfr _ _, .inr rfl⟩
end
end Go.Wk
set_option linter.unusedSimpArgs false
namespace Go.Wk
open Go Go.Lib

/-- a type's zero value, its cells, its bytes -/
def Inf (P : Program) (e : TypeId) (z : Value) (size bytes : Nat) : Prop := ∃ i, P.info? e = some i ∧ i.zero = some z ∧ i.size = size ∧ i.bytes = bytes
theorem inf_of {P : Program} {e : TypeId} {z : Value} {size bytes : Nat} (h : (P.info? e).map (fun i => (i.zero, i.size, i.bytes)) = some (some z, size, bytes)) : Inf P e z size bytes := by
  simp only [Option.map_eq_some_iff, Prod.mk.injEq] at h
  obtain ⟨i, h1, h2, h3, h4⟩ := h
  exact ⟨i, h1, h2, h3, h4⟩

/-- in every world of a class, an operation yields this and leaves the world -/
def Yv (P : Program) (n : Nat) (env : Env) (C : World → Prop) (o : Oper) (v : Value) : Prop :=
  ∀ a, Ag n a env → ∀ w, C w → (execOp a.eval o).run P w = .ok (.value v) w

def lowK : IntKind → Int
  | .i8 => -128 | .i16 => -32768 | .i32 => -2147483648 | .i64 => -9223372036854775808 | _ => 0
def hiK : IntKind → Int
  | .i8 => 127 | .i16 => 32767 | .i32 => 2147483647 | .i64 => 9223372036854775807
  | .u8 => 255 | .u16 => 65535 | .u32 => 4294967295 | .u64 => 18446744073709551615
theorem wrapK {k : IntKind} {x : Int} (h : lowK k ≤ x ∧ x ≤ hiK k) : k.wrap x = x := by
  obtain ⟨h1, h2⟩ := h
  cases k <;> simp only [lowK, hiK] at h1 h2 <;> simp [IntKind.wrap, IntKind.signed, IntKind.bits] <;> omega

def arithV (op : BinOp) (x y : Int) : Option Int :=
  match op with
  | .add => some (x + y)
  | .sub => some (x - y)
  | .mul => some (x * y)
  | _ => none

section
variable {P : Program} {n : Nat} {env : Env} {C : World → Prop} {tab : Tab} {ty : TypeId} {ps : String} {af : Array Edge} {g : Option (Nat × Bool)} {d : Option Nat}

theorem y_load {t : TypeId} {x : Operand} {p : Addr} {v : Value} (hT : TabOk P tab) (hx : ev env x = some (.pointer (some p))) (hag : aggT (tyAt tab t) = some false) (hc : ∀ w, C w → w.cell? p = some v) :
    Yv P n env C ⟨d, .load t x, ty, ps, af, g⟩ v := fun a hA w hw => by
  simp only [execOp, hA.ev hx]
  refine run_bind (a := v) (w' := w) ?_
  unfold Instr.loadAt
  show Sem.run P ((Sem.pure p).bind _) w = _
  simp only [Sem.bind, loadVar]
  refine (run_bind (run_isAgg (ty_agg hT hag))).trans ?_
  simp only [Bool.false_eq_true, if_false]
  show Sem.run P (Sem.load .plain p Sem.pure) w = _
  simp only [Sem.run, hc w hw]

theorem y_loadAgg {t : TypeId} {x : Operand} {p : Addr} {l : List Value} (hT : TabOk P tab) (hx : ev env x = some (.pointer (some p))) (hag : aggT (tyAt tab t) = some true) (hs : szAt tab t = l.length)
    (hc : ∀ w, C w → Cs w (some p) l) : Yv P n env C ⟨d, .load t x, ty, ps, af, g⟩ (.agg ⟨l⟩) := fun a hA w hw => by
  simp only [execOp, hA.ev hx]
  refine run_bind (a := Value.agg ⟨l⟩) (w' := w) ?_
  unfold Instr.loadAt
  show Sem.run P ((Sem.pure p).bind _) w = _
  simp only [Sem.bind, loadVar]
  refine (run_bind (run_isAgg (ty_agg hT hag))).trans ?_
  simp only [if_true]
  refine (run_bind (run_sizeOf (ty_size hT hag hs))).trans ?_
  have := run_loadCells_list (P := P) w p l (fun j v hj => by
    obtain ⟨b, o, e, hcc⟩ := hc w hw j v hj
    cases e
    rw [Addr.add_lit]; exact hcc)
  exact run_bind this

theorem y_index {t : TypeId} {x y : Operand} {s : List UInt8} {kd : IntKind} {i : Int} (hT : TabOk P tab) (hx : ev env x = some (.string (sOf s))) (hy : ev env y = some (.int kd i)) (hty : tyAt tab t = .str) (h0 : 0 ≤ i) (h1 : i < s.length) :
    Yv P n env C ⟨d, .index t x y, ty, ps, af, g⟩ (bv (s.getD i.toNat 0)) := fun a hA w hw => by
  simp only [execOp, hA.ev hx, hA.ev hy]
  refine run_bind (a := bv (s.getD i.toNat 0)) (w' := w) ?_
  unfold Instr.index
  show Sem.run P ((Sem.pure (kd, i)).bind _) w = _
  simp only [Sem.bind]
  refine (run_bind (run_underlying' (ty_str hT hty))).trans ?_
  have hlt : i.toNat < s.length := by omega
  have : (if 0 ≤ i then (sOf s)[i.toNat]? else none) = some (s.getD i.toNat 0) := by
    rw [if_pos h0]
    have h2 : i.toNat < (sOf s).size := hlt
    rw [getElem?_pos (sOf s) i.toNat h2]
    simp only [List.getD_eq_getElem?_getD, List.getElem?_eq_getElem hlt, Option.getD_some]
    rfl
  simp only [this]; rfl

theorem y_indexA {t : TypeId} {x y : Operand} {cs : List Value} {kd : IntKind} {i : Int} {len e s : Nat} {b : Bool} {v : Value}
    (hT : TabOk P tab) (hx : ev env x = some (.agg ⟨cs⟩)) (hy : ev env y = some (.int kd i)) (hty : tyAt tab t = .arr len e s b) (h0 : 0 ≤ i) (h1 : i < len)
    (hv : partV cs (i.toNat * s) s b = some v) : Yv P n env C ⟨d, .index t x y, ty, ps, af, g⟩ v := fun a hA w hw => by
  simp only [execOp, hA.ev hx, hA.ev hy]
  refine run_bind (a := v) (w' := w) ?_
  unfold Instr.index
  show Sem.run P ((Sem.pure (kd, i)).bind _) w = _
  simp only [Sem.bind]
  obtain ⟨h2, h3, h4⟩ := ty_arr hT hty
  refine (run_bind (run_underlying' h2)).trans ?_
  simp only []
  rw [if_pos ⟨h0, h1⟩]
  refine (run_bind (run_sizeOf h3)).trans ?_
  exact run_part h3 h4 hv

theorem guard_int {op : BinOp} {t : TypeId} {p q : Operand} {k k' : IntKind} {a b : Int} {w : World} : (eqGuard op t p q (.int k a) (.int k' b)).run P w = .ok () w := by cases op <;> rfl

theorem y_arith {op : BinOp} {t t' : TypeId} {x y : Operand} {kd : IntKind} {a b r : Int} (hx : ev env x = some (.int kd a)) (hy : ev env y = some (.int kd b)) (hr : arithV op a b = some r) (h1 : lowK kd ≤ r ∧ r ≤ hiK kd) :
    Yv P n env C ⟨d, .binOp op t x y t', ty, ps, af, g⟩ (.int kd r) := fun c hA w hw => by
  simp only [execOp, hA.ev hx, hA.ev hy]
  refine run_bind (a := Value.int kd r) (w' := w) ?_
  have e := wrapK h1
  refine (run_bind (a := ()) (w' := w) guard_int).trans ?_
  cases op <;> simp only [arithV] at hr <;> first | (cases hr; done) | (cases hr; simp [binOp, Op.intArith, e])
theorem y_arithW {op : BinOp} {t t' : TypeId} {x y : Operand} {kd : IntKind} {a b r : Int} (hx : ev env x = some (.int kd a)) (hy : ev env y = some (.int kd b)) (hr : arithV op a b = some r) :
    Yv P n env C ⟨d, .binOp op t x y t', ty, ps, af, g⟩ (.int kd (kd.wrap r)) := fun c hA w hw => by
  simp only [execOp, hA.ev hx, hA.ev hy]
  refine run_bind (a := Value.int kd (kd.wrap r)) (w' := w) ?_
  refine (run_bind (a := ()) (w' := w) guard_int).trans ?_
  cases op <;> simp only [arithV] at hr <;> first | (cases hr; done) | (cases hr; simp [binOp, Op.intArith])

/-- whole numbers of the same sign: Go's `/` and `%` are Lean's -/
theorem y_quo {t t' : TypeId} {x y : Operand} {kd : IntKind} {a b : Int} (hx : ev env x = some (.int kd a)) (hy : ev env y = some (.int kd b)) (h0 : 0 ≤ a) (hb : 0 < b) (h2 : a ≤ hiK kd) :
    Yv P n env C ⟨d, .binOp .quo t x y t', ty, ps, af, g⟩ (.int kd (a / b)) := fun c hA w hw => by
  simp only [execOp, hA.ev hx, hA.ev hy]
  refine run_bind (a := Value.int kd (a / b)) (w' := w) ?_
  refine (run_bind (a := ()) (w' := w) guard_int).trans ?_
  have h3 : 0 ≤ a / b := Int.ediv_nonneg h0 (by omega)
  have h4 : a / b ≤ a := Int.ediv_le_self _ h0
  have h5 : lowK kd ≤ 0 := by cases kd <;> decide
  have e : kd.wrap (a / b) = a / b := wrapK ⟨by omega, by omega⟩
  have e2 : a.tdiv b = a / b := by rw [Int.tdiv_eq_ediv_of_nonneg h0]
  simp [binOp, Op.intDiv, show ¬ b = 0 by omega, e2, e]
theorem y_rem {t t' : TypeId} {x y : Operand} {kd : IntKind} {a b : Int} (hx : ev env x = some (.int kd a)) (hy : ev env y = some (.int kd b)) (h0 : 0 ≤ a) (hb : 0 < b) :
    Yv P n env C ⟨d, .binOp .rem t x y t', ty, ps, af, g⟩ (.int kd (a % b)) := fun c hA w hw => by
  simp only [execOp, hA.ev hx, hA.ev hy]
  refine run_bind (a := Value.int kd (a % b)) (w' := w) ?_
  refine (run_bind (a := ()) (w' := w) guard_int).trans ?_
  have e2 : a.tmod b = a % b := by rw [Int.tmod_eq_emod_of_nonneg h0]
  simp [binOp, Op.intDiv, show ¬ b = 0 by omega, e2]
/-- whatever the signs -/
theorem y_remT {t t' : TypeId} {x y : Operand} {kd : IntKind} {a b : Int} (hx : ev env x = some (.int kd a)) (hy : ev env y = some (.int kd b)) (hb : b ≠ 0) :
    Yv P n env C ⟨d, .binOp .rem t x y t', ty, ps, af, g⟩ (.int kd (a.tmod b)) := fun c hA w hw => by
  simp only [execOp, hA.ev hx, hA.ev hy]
  refine run_bind (a := Value.int kd (a.tmod b)) (w' := w) ?_
  refine (run_bind (a := ()) (w' := w) guard_int).trans ?_
  simp [binOp, Op.intDiv, hb]
/-- a shift by a count that is no constant -/
theorem y_shl {t t' : TypeId} {x y : Operand} {k k' : IntKind} {a b : Int} (hx : ev env x = some (.int k a)) (hy : ev env y = some (.int k' b)) (h0 : 0 ≤ b) (h1 : b ≤ k.bits) :
    Yv P n env C ⟨d, .binOp .shl t x y t', ty, ps, af, g⟩ (.int k (k.wrap (a * 2 ^ b.toNat))) := fun c hA w hw => by
  simp only [execOp, hA.ev hx, hA.ev hy]
  refine run_bind (a := Value.int k (k.wrap (a * 2 ^ b.toNat))) (w' := w) ?_
  refine (run_bind (a := ()) (w' := w) guard_int).trans ?_
  simp only [binOp, Op.shift]
  rw [if_neg (by omega)]
  simp only [Nat.min_eq_left (show b.toNat ≤ k.bits by omega)]; rfl
theorem y_shr {t t' : TypeId} {x y : Operand} {k k' : IntKind} {a b : Int} (hx : ev env x = some (.int k a)) (hy : ev env y = some (.int k' b)) (h0 : 0 ≤ b) (h1 : b ≤ k.bits) :
    Yv P n env C ⟨d, .binOp .shr t x y t', ty, ps, af, g⟩ (.int k (a.fdiv (2 ^ b.toNat))) := fun c hA w hw => by
  simp only [execOp, hA.ev hx, hA.ev hy]
  refine run_bind (a := Value.int k (a.fdiv (2 ^ b.toNat))) (w' := w) ?_
  refine (run_bind (a := ()) (w' := w) guard_int).trans ?_
  simp only [binOp, Op.shift]
  rw [if_neg (by omega)]
  simp only [Nat.min_eq_left (show b.toNat ≤ k.bits by omega)]; rfl

theorem y_conv {s t : TypeId} {x : Operand} {k k' : IntKind} {a : Int} (hT : TabOk P tab) (hx : ev env x = some (.int k a)) (hs : tyAt tab s = .int k) (ht : tyAt tab t = .int k') (h : lowK k' ≤ a ∧ a ≤ hiK k') :
    Yv P n env C ⟨d, .convert s t x, ty, ps, af, g⟩ (.int k' a) := fun c hA w hw => by
  simp only [execOp, hA.ev hx]
  refine run_bind (a := Value.int k' a) (w' := w) ?_
  unfold convert
  refine (run_bind (run_underlying' (ty_int hT hs))).trans ?_
  refine (run_bind (run_underlying' (ty_int hT ht))).trans ?_
  simp only [Conv.intToInt, wrapK h]; rfl

theorem byte_lt (b : UInt8) : (b.toNat : Int) < 256 := by have := b.toNat_lt; omega
def fits8 : IntKind → Bool
  | .i8 => false
  | _ => true
theorem y_convB {s t : TypeId} {x : Operand} {k2 : IntKind} {b : UInt8} (hT : TabOk P tab) (hx : ev env x = some (bv b)) (hs : tyAt tab s = .int .u8) (ht : tyAt tab t = .int k2) (h : fits8 k2 = true) :
    Yv P n env C ⟨d, .convert s t x, ty, ps, af, g⟩ (.int k2 (b.toNat : Int)) :=
  y_conv hT hx hs ht (by have := byte_lt b; cases k2 <;> first | (cases h; done) | (simp only [lowK, hiK]; omega))
theorem y_convW {s t : TypeId} {x : Operand} {k k' : IntKind} {a : Int} (hT : TabOk P tab) (hx : ev env x = some (.int k a)) (hs : tyAt tab s = .int k) (ht : tyAt tab t = .int k') :
    Yv P n env C ⟨d, .convert s t x, ty, ps, af, g⟩ (.int k' (k'.wrap a)) := fun c hA w hw => by
  simp only [execOp, hA.ev hx]
  refine run_bind (a := Value.int k' (k'.wrap a)) (w' := w) ?_
  unfold convert
  refine (run_bind (run_underlying' (ty_int hT hs))).trans ?_
  exact (run_bind (run_underlying' (ty_int hT ht)))
theorem y_concat {t t' : TypeId} {x y : Operand} {s u : List UInt8} (hx : ev env x = some (.string (sOf s))) (hy : ev env y = some (.string (sOf u))) (h : s.length + u.length ≤ 9223372036854775807) :
    Yv P n env C ⟨d, .binOp .add t x y t', ty, ps, af, g⟩ (.string (sOf (s ++ u))) := fun c hA w hw => by
  simp only [execOp, hA.ev hx, hA.ev hy]
  refine run_bind (a := Value.string (sOf (s ++ u))) (w' := w) ?_
  refine (run_bind (a := ()) (w' := w) rfl).trans ?_
  show Sem.run P (Op.stringOp .add (sOf s) (sOf u)) w = _
  rw [run_string_add_sum (P := P) w (sOf s) (sOf u) h]
  have : sOf s ++ sOf u = sOf (s ++ u) := by
    apply ByteArray.ext
    simp
  rw [this]

/-- a bound of a slice expression, or what stands for it -/
def bnd (env : Env) (dflt : Int) : Option Operand → Option Int
  | none => some dflt
  | some x => match ev env x with
    | some (.int _ i) => some i
    | _ => none
theorem bnd_some {env : Env} {dflt : Int} {x : Operand} {i : Int} (h : bnd env dflt (some x) = some i) : ∃ k, ev env x = some (.int k i) := by
  simp only [bnd] at h
  split at h
  · rename_i k j hx; cases h; exact ⟨k, hx⟩
  · cases h
theorem run_bound {w : World} {k : IntKind} {i : Int} {y : Nat} (h0 : 0 ≤ i) (h1 : i ≤ y) (code : BoundsCode) : (Instr.sliceBound (.int k i) y code).run P w = .ok i.toNat w := by
  unfold Instr.sliceBound
  show Sem.run P ((Sem.pure (k, i)).bind _) w = _
  simp only [Sem.bind]
  rw [if_pos ⟨h0, h1⟩]; rfl
theorem run_bounds {env : Env} {a : Act} (hA : Ag n a env) {w : World} {isS : Bool} {len cap : Nat} {lo hi : Option Operand} {i j : Int}
    (hi' : bnd env (len : Nat) hi = some j) (hlo : bnd env (0 : Nat) lo = some i) (h0 : 0 ≤ i) (h1 : i ≤ j) (h2 : j ≤ cap) :
    (Instr.sliceBounds isS len cap (lo.map a.eval) (hi.map a.eval) none).run P w = .ok (i.toNat, j.toNat, cap) w := by
  unfold Instr.sliceBounds
  refine (run_bind (a := cap) (w' := w) rfl).trans ?_
  have low : ∀ (h : Nat), h = j.toNat → ((match lo.map a.eval with | some v => Instr.sliceBound v h (if (none : Option Value).isSome = true then .slice3C else .sliceB) | none => pure 0) : Sem Nat).run P w = .ok i.toNat w := by
    intro h hh
    subst hh
    cases lo with
    | none =>
      simp only [bnd, Option.some.injEq] at hlo
      subst hlo; rfl
    | some x =>
      obtain ⟨k, hx⟩ := bnd_some hlo
      simp only [Option.map_some, hA.ev hx]
      exact run_bound h0 (by omega) _
  cases hi with
  | none =>
    simp only [bnd, Option.some.injEq] at hi'
    simp only [Option.map_none]
    refine (run_bind (a := len) (w' := w) rfl).trans ?_
    have := low len (by omega)
    have hj : j.toNat = len := by omega
    cases lo with
    | none => rw [hj]; exact run_bind this
    | some x => rw [hj]; exact run_bind this
  | some y =>
    obtain ⟨k, hy⟩ := bnd_some hi'
    simp only [Option.map_some, hA.ev hy]
    refine (run_bind (run_bound (by omega) h2 _)).trans ?_
    have := low j.toNat rfl
    cases lo with
    | none => exact run_bind this
    | some x => exact run_bind this

theorem y_sliceStr {t : TypeId} {x : Operand} {lo hi : Option Operand} {s : List UInt8} {i j : Int} (hT : TabOk P tab) (hx : ev env x = some (.string (sOf s))) (hty : tyAt tab t = .str)
    (hi' : bnd env (s.length : Nat) hi = some j) (hlo : bnd env (0 : Nat) lo = some i) (h0 : 0 ≤ i) (h1 : i ≤ j) (h2 : j ≤ s.length) :
    Yv P n env C ⟨d, .slice t x lo hi none, ty, ps, af, g⟩ (.string (sOf ((s.take j.toNat).drop i.toNat))) := fun a hA w hw => by
  simp only [execOp, hA.ev hx]
  refine run_bind (a := Value.string (sOf ((s.take j.toNat).drop i.toNat))) (w' := w) ?_
  unfold Instr.sliceAt
  refine (run_bind (run_underlying' (ty_str hT hty))).trans ?_
  simp only [Instr.slice]
  refine (run_bind (run_underlying' (ty_str hT hty))).trans ?_
  simp only [Option.map_none, Option.isSome_none, Bool.false_eq_true, if_false]
  refine (run_bind (run_bounds (len := (sOf s).size) (cap := (sOf s).size) hA hi' hlo h0 h1 h2)).trans ?_
  have : (sOf s).extract i.toNat j.toNat = sOf ((s.take j.toNat).drop i.toNat) := by
    apply ByteArray.ext
    simp
    rw [List.drop_take]
  show Sem.run P (pure (Value.string ((sOf s).extract i.toNat j.toNat))) w = _
  rw [this]; rfl

/-- the address of a cut -/
def cutA (sz l m : Nat) (A : Option Addr) : Option Addr := if m = l then A else A.map (·.add (l * sz))
theorem y_slice {t e sz : Nat} {x : Operand} {lo hi : Option Operand} {A : Option Addr} {len cap : Nat} {i j : Int} (hT : TabOk P tab) (hx : ev env x = some (.slice A len cap)) (hty : tyAt tab t = .slice e sz)
    (hi' : bnd env (len : Nat) hi = some j) (hlo : bnd env (0 : Nat) lo = some i) (h0 : 0 ≤ i) (h1 : i ≤ j) (h2 : j ≤ cap) :
    Yv P n env C ⟨d, .slice t x lo hi none, ty, ps, af, g⟩ (.slice (cutA sz i.toNat cap A) (j.toNat - i.toNat) (cap - i.toNat)) := fun a hA w hw => by
  simp only [execOp, hA.ev hx]
  refine run_bind (a := Value.slice (cutA sz i.toNat cap A) (j.toNat - i.toNat) (cap - i.toNat)) (w' := w) ?_
  unfold Instr.sliceAt
  obtain ⟨ht, hs⟩ := ty_slice hT hty
  refine (run_bind (run_underlying' ht)).trans ?_
  simp only [Instr.slice]
  refine (run_bind (run_underlying' ht)).trans ?_
  simp only [Option.map_none]
  refine (run_bind (run_bounds hA hi' hlo h0 h1 h2)).trans ?_
  exact (run_bind (run_sizeOf hs)).trans rfl

theorem y_indexAddr {t e sz : Nat} {x y : Operand} {b o len cap : Nat} {kd : IntKind} {i : Int} (hT : TabOk P tab) (hx : ev env x = some (.slice (some ⟨b, o, none⟩) len cap)) (hy : ev env y = some (.int kd i)) (hty : tyAt tab t = .slice e sz)
    (h0 : 0 ≤ i) (h1 : i < len) : Yv P n env C ⟨d, .indexAddr t x y, ty, ps, af, g⟩ (.pointer (some ⟨b, o + i.toNat * sz, none⟩)) := fun a hA w hw => by
  simp only [execOp, hA.ev hx, hA.ev hy]
  refine run_bind (a := Value.pointer (some ⟨b, o + i.toNat * sz, none⟩)) (w' := w) ?_
  obtain ⟨ht, hs⟩ := ty_slice hT hty
  unfold Instr.indexAt
  show Sem.run P ((Sem.pure (kd, i)).bind _) w = _
  simp only [Sem.bind]
  refine (run_bind (run_underlying' ht)).trans ?_
  simp only []
  refine (run_bind (a := (some (⟨b, o, none⟩ : Addr), len, e)) (w' := w) rfl).trans ?_
  refine (run_bind (run_underlying' ht)).trans ?_
  simp only []
  rw [if_pos ⟨h0, h1⟩]
  refine (run_bind (run_sizeOf hs)).trans ?_
  have : (⟨b, o, none⟩ : Addr).add (i.toNat * sz) = ⟨b, o + i.toNat * sz, none⟩ := Addr.add_lit ..
  rw [this]; rfl

/-- a struct or an array built: the parts in any order; shown by a run that asks nothing of the world -/
def evPairs (env : Env) : List (Nat × Operand) → Option (List (Nat × Value))
  | [] => some []
  | (i, x) :: r => match ev env x, evPairs env r with
    | some v, some l => some ((i, v) :: l)
    | _, _ => none
theorem evPairs_ok {env : Env} {a : Act} (hA : Ag n a env) : ∀ {l : List (Nat × Operand)} {vs : List (Nat × Value)}, evPairs env l = some vs → l.map (fun x => (x.1, a.eval x.2)) = vs
  | [], vs, h => by cases h; rfl
  | (i, x) :: r, vs, h => by
    simp only [evPairs] at h
    split at h
    · rename_i v l h1 h2
      cases h
      simp only [List.map_cons, hA.ev h1, evPairs_ok hA h2]
    · cases h
theorem y_build {t : TypeId} {parts : List (Nat × Operand)} {v : Value} {vs : List (Nat × Value)} (hvs : evPairs env parts = some vs) (hrun : ∀ w, (Instr.build t ⟨vs⟩).run P w = .ok v w) :
    Yv P n env C ⟨d, .build t ⟨parts⟩, ty, ps, af, g⟩ v := fun a hA w hw => by
  have e1 : (⟨parts⟩ : Array (Nat × Operand)).map (fun x => (x.1, a.eval x.2)) = ⟨vs⟩ := by
    have := evPairs_ok hA hvs
    simpa using this
  have e2 : (⟨parts⟩ : Array (Nat × Operand)).map (fun x => match x with | (i, x) => (i, a.eval x)) = ⟨vs⟩ := e1
  simp only [execOp]
  rw [e2]
  exact run_bind (hrun w)

theorem strOfNums_bytes (l : List UInt8) : strOfNums (l.map fun b => (b.toNat : Int)) = sOf l := by
  unfold strOfNums
  congr 1
  simp [Function.comp_def]
theorem y_strOf {s t e : TypeId} {sz : Nat} {x : Operand} {A : Option Addr} {cap : Nat} {l : List UInt8} (hT : TabOk P tab) (hx : ev env x = some (.slice A l.length cap)) (hs : tyAt tab s = .slice e sz) (he : tyAt tab e = .int .u8) (ht : tyAt tab t = .str)
    (hc : ∀ w, C w → Cs w A (l.map bv)) : Yv P n env C ⟨d, .convert s t x, ty, ps, af, g⟩ (.string (sOf l)) := fun a hA w hw => by
  simp only [execOp, hA.ev hx]
  refine run_bind (a := Value.string (sOf l)) (w' := w) ?_
  obtain ⟨h1, h2⟩ := ty_slice hT hs
  cases A with
  | none =>
    have hl : l = [] := by
      cases l with
      | nil => rfl
      | cons b r =>
        obtain ⟨_, _, e1, _⟩ := hc w hw 0 (bv b) rfl
        cases e1
    subst hl
    exact run_convert_bytes_nil w s e h1 (ty_int hT he) 0 cap t (ty_str hT ht)
  | some ad =>
    by_cases hl : l = []
    · subst hl
      have h4 : (convert s t (.slice (some ad) 0 cap)).run P w = .ok (.string (sOf [])) w := by
        rw [run_convert_bytes_string w s t e _ 0 cap h1 (ty_int hT he) (ty_str hT ht), run_bytesToString w ad 0 cap [] (by simp [loadCells, loadCellsFrom])]
        rfl
      exact h4
    · have h0 : 0 < l.length := List.length_pos_iff.2 hl
      obtain ⟨b, o, e1, _⟩ := hc w hw 0 (bv l[0]) (by simp [h0])
      cases e1
      have := run_convert_bytes_arg (P := P) w s e h1 (ty_int hT he) b o l.length cap (l.map fun b => (b.toNat : Int)) (by simp) (fun i hi => by
        obtain ⟨b', o', e2, hcc⟩ := hc w hw i (bv l[i]) (by simp [hi])
        cases e2
        rw [hcc]
        simp [hi]) t (ty_str hT ht)
      rw [strOfNums_bytes] at this
      exact this
end

/-! ### as events -/
section
variable {P : Program} {fn : Func} {R : Ending → World → Prop} {n : Nat} {w : World}
theorem ev_y {k : List It} {env : Env} {L l : List Oper} {d : Nat} {op : Op} {ty : TypeId} {ps : String} {af : Array Edge} {g : Option (Nat × Bool)} {v : Value}
    (hg : guardOf L env g = some true) (hd : Nat.blt d n = true) (hy : Yv P n env (fun w' => w' = w) ⟨some d, op, ty, ps, af, g⟩ v)
    (hk : H P fn R n (.ops L l :: k) .normal ((d, v) :: env) w) : H P fn R n (.ops L (⟨some d, op, ty, ps, af, g⟩ :: l) :: k) .normal env w :=
  ev_op hg hd v w (fun a hA => hy a hA w rfl) hk
/-- a fact of this very world -/
theorem at_w {w : World} {φ : World → Prop} (h : φ w) : ∀ w', w' = w → φ w' := fun _ e => e ▸ h
theorem ev_load {k : List It} {env : Env} {L l : List Oper} {d : Nat} {t : TypeId} {x : Operand} {ty : TypeId} {ps : String} {af : Array Edge} {g : Option (Nat × Bool)} {tab : Tab} {p : Addr} {v : Value}
    (hg : guardOf L env g = some true) (hd : Nat.blt d n = true) (hT : TabOk P tab) (hx : ev env x = some (.pointer (some p))) (hag : aggT (tyAt tab t) = some false) (hc : w.cell? p = some v)
    (hk : H P fn R n (.ops L l :: k) .normal ((d, v) :: env) w) : H P fn R n (.ops L (⟨some d, .load t x, ty, ps, af, g⟩ :: l) :: k) .normal env w :=
  ev_y hg hd (y_load hT hx hag (at_w hc)) hk
/-- an operation that turns the world -/
theorem ev_w {k : List It} {env : Env} {L l : List Oper} {d : Nat} {op : Op} {ty : TypeId} {ps : String} {af : Array Edge} {g : Option (Nat × Bool)} {S : Value → World → Prop}
    (hg : guardOf L env g = some true) (hd : Nat.blt d n = true) (hy : ∃ v w', (∀ a, Ag n a env → (execOp a.eval ⟨some d, op, ty, ps, af, g⟩).run P w = .ok (.value v) w') ∧ S v w')
    (hk : ∀ v w', S v w' → H P fn R n (.ops L l :: k) .normal ((d, v) :: env) w') : H P fn R n (.ops L (⟨some d, op, ty, ps, af, g⟩ :: l) :: k) .normal env w := by
  obtain ⟨v, w', h1, h2⟩ := hy
  exact ev_op hg hd v w' h1 (hk v w' h2)

theorem ev_box {k : List It} {env : Env} {L l : List Oper} {d : Nat} {e : TypeId} {x : Operand} {ty : TypeId} {ps : String} {af : Array Edge} {g : Option (Nat × Bool)} {v : Value}
    (hg : guardOf L env g = some true) (hd : Nat.blt d n = true) (hx : ev env x = some v)
    (hk : ∀ b w', w.heap.size ≤ b → Blk w' b v.cells.toList e → Fr no w w' → H P fn R n (.ops L l :: k) .normal ((d, .pointer (some ⟨b, 0, none⟩)) :: env) w') :
    H P fn R n (.ops L (⟨some d, .box e x, ty, ps, af, g⟩ :: l) :: k) .normal env w :=
  ev_op hg hd (.pointer (some ⟨w.heap.size, 0, none⟩)) (w.alloc (.cells ⟨v.cells.toList⟩ e)) (fun a hA => by
    simp only [execOp, hA.ev hx]; rfl) (hk _ _ (Nat.le_refl _) (Blk.new _ _ _) (Fr.alloc _ _))
theorem ev_alloc {k : List It} {env : Env} {L l : List Oper} {d : Nat} {e : TypeId} {ty : TypeId} {ps : String} {af : Array Edge} {g : Option (Nat × Bool)} {z : Value} {s b : Nat}
    (hg : guardOf L env g = some true) (hd : Nat.blt d n = true) (hz : Inf P e z s b)
    (hk : ∀ b w', w.heap.size ≤ b → Blk w' b z.cells.toList e → Fr no w w' → H P fn R n (.ops L l :: k) .normal ((d, .pointer (some ⟨b, 0, none⟩)) :: env) w') :
    H P fn R n (.ops L (⟨some d, .alloc e, ty, ps, af, g⟩ :: l) :: k) .normal env w :=
  ev_op hg hd (.pointer (some ⟨w.heap.size, 0, none⟩)) (w.alloc (.cells ⟨z.cells.toList⟩ e)) (fun a hA => by
    obtain ⟨i, hi, hz, _, _⟩ := hz
    simp only [execOp]
    refine run_bind (a := Value.pointer (some ⟨w.heap.size, 0, none⟩)) ?_
    unfold Instr.alloc
    refine (run_bind (a := z) (w' := w) ?_).trans rfl
    unfold zeroValue
    refine (run_bind (run_typeInfo hi)).trans ?_
    rw [hz]; rfl) (hk _ _ (Nat.le_refl _) (Blk.new _ _ _) (Fr.alloc _ _))

theorem blt_of {a b : Nat} (h : a < b) : Nat.blt a b = true := Nat.ble_eq_true_of_le h
/-- a store of one cell into a block that is known -/
theorem ev_store {k : List It} {env : Env} {L l : List Oper} {t : TypeId} {x y : Operand} {ty : TypeId} {ps : String} {af : Array Edge} {g : Option (Nat × Bool)} {tab : Tab} {b o : Nat} {v : Value} {cs : List Value} {e : TypeId}
    (hT : TabOk P tab) (hg : guardOf L env g = some true) (hx : ev env x = some (.pointer (some ⟨b, o, none⟩))) (hy : ev env y = some v) (hag : aggT (tyAt tab t) = some false) (hs : szAt tab t = 1) (hv : v.oneCell' = true)
    (hb : Blk w b cs e) (ho : Nat.blt o cs.length = true)
    (hk : ∀ w', Blk w' b (setV cs o v) e → Fr (fun c => c = b) w w' → H P fn R n (.ops L l :: k) .normal env w') :
    H P fn R n (.ops L (⟨none, .store t x y, ty, ps, af, g⟩ :: l) :: k) .normal env w :=
  ev_do hg (w.setCell ⟨b, o, none⟩ v) (fun a hA => by
    simp only [execOp, hA.ev hx, hA.ev hy]
    refine run_bind (a := ()) (w' := w.setCell ⟨b, o, none⟩ v) ?_
    unfold Instr.storeAt
    show Sem.run P ((Sem.pure _).bind _) w = _
    simp only [Sem.bind, storeVar]
    refine (run_bind (run_sizeOf (ty_size hT hag hs))).trans ?_
    have hc : v.cells = #[v] := by cases v <;> first | rfl | (simp [Value.oneCell'] at hv)
    have ho' : o < cs.length := Nat.le_of_ble_eq_true ho
    simp only [hc, List.size_toArray, List.length_singleton, ne_eq, not_true_eq_false, if_false, storeCells]
    refine (run_bind (a := ()) (w' := w.setCell ⟨b, o, none⟩ v) ?_).trans rfl
    rw [run_store P w _ v .plain hv]
    have e1 : (⟨b, o, none⟩ : Addr).add 0 = ⟨b, o, none⟩ := rfl
    simp only [e1, hb.cell (o := o) (v := cs[o]) (by rw [nthV_eq]; simp [ho']), hb.frozen o]
    rfl) (hk _ (hb.set o v) (Fr.setCell w ⟨b, o, none⟩ v))

/-- parts of a literal, in their order -/
def evParts (env : Env) : Nat → List (Nat × Operand) → Option (List Value)
  | _, [] => some []
  | k, (i, x) :: r => match Nat.beq i k, ev env x, evParts env (k + 1) r with
    | true, some v, some l => some (v :: l)
    | _, _, _ => none
theorem evParts_ok {env : Env} {a : Act} (hA : Ag n a env) : ∀ {l : List (Nat × Operand)} {k : Nat} {vs : List Value}, evParts env k l = some vs →
    l.map (fun x => (x.1, a.eval x.2)) = (List.range' k vs.length).zip vs
  | [], k, vs, h => by cases h; rfl
  | (i, x) :: r, k, vs, h => by
    simp only [evParts] at h
    split at h
    · rename_i v l h1 h2 h3
      cases h
      have hi := Nat.eq_of_beq_eq_true h1
      subst hi
      simp only [List.map_cons, hA.ev h2, evParts_ok hA h3, List.length_cons, List.range'_succ, List.zip_cons_cons]
    · cases h
def flatV (vs : List Value) : List Value := vs.flatMap fun v => v.cells.toList
theorem fill_one (size off : Nat) : ∀ (l : List Value) (j : Nat) (cs : List Value), off + j + l.length ≤ cs.length →
    ((l.zipIdx j).foldl (fun (cs : Array Value) (x : Value × Nat) => cs.setIfInBounds (off + x.2) x.1) cs.toArray) = (cs.take (off + j) ++ l ++ cs.drop (off + j + l.length)).toArray
  | [], j, cs, h => by simp
  | v :: l, j, cs, h => by
    simp only [List.zipIdx_cons, List.foldl_cons, List.length_cons] at h ⊢
    have e : (cs.toArray.setIfInBounds (off + j) v) = (cs.set (off + j) v).toArray := by simp
    rw [e, fill_one size off l (j + 1) (cs.set (off + j) v) (by simp; omega)]
    congr 1
    have h1 : off + j < cs.length := by omega
    rw [show off + (j + 1) = off + j + 1 by omega]
    have e1 : (cs.set (off + j) v).take (off + j + 1) = cs.take (off + j) ++ [v] := by
      rw [List.take_succ_eq_append_getElem (by simpa using h1), List.take_set_of_le (Nat.le_refl _)]
      simp
    rw [e1, List.drop_set_of_lt (by omega)]
    simp only [List.append_assoc, List.singleton_append]
    rw [show off + j + 1 + l.length = off + j + (l.length + 1) by omega]
theorem fill_all (size : Nat) : ∀ (vs : List Value) (k : Nat) (cs : List Value), (∀ v ∈ vs, v.cells.size = size) → cs.length = (k + vs.length) * size →
    Instr.fill (fun i => some (i * size, size)) cs.toArray ((List.range' k vs.length).zip vs) = some (cs.take (k * size) ++ flatV vs).toArray
  | [], k, cs, _, hl => by
    have : cs.take (k * size) = cs := List.take_of_length_le (by simp at hl; omega)
    simp [Instr.fill, flatV, this]
  | v :: vs, k, cs, hv, hl => by
    have h1 : v.cells.size = size := hv v (by simp)
    have hlen : (k + (vs.length + 1)) * size = k * size + size + vs.length * size := by rw [Nat.add_mul, Nat.add_mul]; omega
    simp only [List.length_cons] at hl
    have hroom : k * size + size ≤ cs.length := by rw [hl, hlen]; omega
    simp only [List.length_cons, List.range'_succ, List.zip_cons_cons, Instr.fill, h1]
    have hcond : ¬ (k * size + size > cs.toArray.size) := by simpa using hroom
    simp only [ne_eq, not_true_eq_false, decide_false, Bool.false_or, decide_eq_true_eq, if_neg hcond]
    have e := fill_one size (k * size) v.cells.toList 0 cs (by simp [h1]; omega)
    have e2 : Array.foldl (fun (cs : Array Value) (x : Value × Nat) => cs.setIfInBounds (k * size + x.2) x.1) cs.toArray v.cells.zipIdx = (cs.take (k * size + 0) ++ v.cells.toList ++ cs.drop (k * size + 0 + v.cells.toList.length)).toArray := by
      rw [← e, ← Array.foldl_toList]
      simp
    have e3 : (Array.foldl (fun cs x => match x with | (c, j) => cs.setIfInBounds (k * size + j) c) cs.toArray v.cells.zipIdx) = Array.foldl (fun (cs : Array Value) (x : Value × Nat) => cs.setIfInBounds (k * size + x.2) x.1) cs.toArray v.cells.zipIdx := rfl
    rw [e3, e2]
    have e6 : (k + 1 + vs.length) * size = k * size + size + vs.length * size := by rw [Nat.add_mul, Nat.add_mul]; omega
    rw [fill_all size vs (k + 1) _ (fun u hu => hv u (by simp [hu])) (by
      rw [e6]
      simp only [List.length_append, List.length_take, List.length_drop, Array.length_toList, h1]
      rw [hl, hlen]
      omega)]
    congr 2
    have e4 : k * size + 0 = k * size := by omega
    rw [e4]
    have e5 : (cs.take (k * size) ++ v.cells.toList).length = (k + 1) * size := by
      simp only [List.length_append, List.length_take, Array.length_toList, h1, Nat.add_mul]; omega
    rw [List.take_append_of_le_length (by omega), List.take_of_length_le (by omega)]
    simp [flatV, List.append_assoc]

theorem ev_buildSlice {k : List It} {env : Env} {L l : List Oper} {d : Nat} {t len : Nat} {parts : List (Nat × Operand)} {ty : TypeId} {ps : String} {af : Array Edge} {g : Option (Nat × Bool)} {tab : Tab} {vs : List Value} {e sz : Nat} {z : Value} {b : Nat}
    (hT : TabOk P tab) (hg : guardOf L env g = some true) (hd : Nat.blt d n = true) (hty : tyAt tab t = .slice e sz) (hz : Inf P e z sz b) (hzc : z.cells.size = sz) (hvs : evParts env 0 parts = some vs) (hl : vs.length = len) (hsz : ∀ v ∈ vs, v.cells.size = sz)
    (hsmall : Nat.ble (len * sz) 16777216 = true)
    (hk : ∀ b w', w.heap.size ≤ b → Blk w' b (flatV vs) e → Fr no w w' → H P fn R n (.ops L l :: k) .normal ((d, .slice (some ⟨b, 0, none⟩) len len) :: env) w') :
    H P fn R n (.ops L (⟨some d, .buildSlice t len ⟨parts⟩, ty, ps, af, g⟩ :: l) :: k) .normal env w :=
  ev_op hg hd (.slice (some ⟨w.heap.size, 0, none⟩) len len) (w.alloc (.cells ⟨flatV vs⟩ e)) (fun a hA => by
    have e1 : (⟨parts⟩ : Array (Nat × Operand)).map (fun x => (x.1, a.eval x.2)) = ⟨(List.range' 0 vs.length).zip vs⟩ := by
      have := evParts_ok hA hvs
      simpa using this
    simp only [execOp]
    refine run_bind (a := Value.slice (some ⟨w.heap.size, 0, none⟩) len len) (w' := w.alloc (.cells ⟨flatV vs⟩ e)) ?_
    have e1' : (⟨parts⟩ : Array (Nat × Operand)).map (fun x => match x with | (i, x) => (i, a.eval x)) = ⟨(List.range' 0 vs.length).zip vs⟩ := e1
    rw [e1']
    unfold Instr.buildSlice
    obtain ⟨h1, h2⟩ := ty_slice hT hty
    obtain ⟨i, hi, hzv, hi2, _⟩ := hz
    refine (run_bind (run_underlying' h1)).trans ?_
    simp only []
    refine (run_bind (run_sizeOf h2)).trans ?_
    have hs := Nat.le_of_ble_eq_true hsmall
    rw [if_neg (by omega)]
    have hfill : ∀ (zs : Array Value), Instr.fill (fun i => some (i * sz, sz)) ((Array.range (len * sz)).map (zs[· % zs.size]!)) ((List.range' 0 vs.length).zip vs) = some ⟨flatV vs⟩ := by
      intro zs
      have := fill_all sz vs 0 ((Array.range (len * sz)).map (zs[· % zs.size]!)).toList hsz (by simp [hl])
      rw [Array.toArray_toList] at this
      rw [this]
      simp
    by_cases h0 : len * sz = 0
    · simp only [h0, if_true]
      refine (run_bind (a := (#[] : Array Value)) (w' := w) rfl).trans ?_
      have := hfill #[]
      rw [h0] at this
      simp only [this]; rfl
    · simp only [h0, if_false]
      refine (run_bind (a := z) (w' := w) ?_).trans ?_
      · unfold zeroValue
        refine (run_bind (run_typeInfo hi)).trans ?_
        rw [hzv]; rfl
      · refine (run_bind (a := z.cells) (w' := w) rfl).trans ?_
        simp only [hfill]; rfl) (hk _ _ (Nat.le_refl _) (Blk.new _ _ _) (Fr.alloc _ _))

theorem own_of_blk {e sz q m : Nat} {cs : List Value} (h : Blk w q cs e) (hl : cs.length = m * sz) (hm : m ≤ 9223372036854775807) : Own w e sz (.slice (some ⟨q, 0, none⟩) m m) m cs :=
  ⟨hl, .inr ⟨q, m, ⟨cs⟩, rfl, Nat.zero_le _, h, Nat.le_refl _, by unfold maxLen; omega, hl, List.take_of_length_le (by simp [hl])⟩⟩
/-- make([]T, n) -/
theorem ev_make {k : List It} {env : Env} {L l : List Oper} {d : Nat} {t : TypeId} {x y : Operand} {ty : TypeId} {ps : String} {af : Array Edge} {g : Option (Nat × Bool)} {tab : Tab} {e sz : Nat} {z : Value} {b : Nat} {kl kc : IntKind} {i : Int}
    (hT : TabOk P tab) (hg : guardOf L env g = some true) (hd : Nat.blt d n = true) (hty : tyAt tab t = .slice e sz) (hz : Inf P e z sz b) (hx : ev env x = some (.int kl i)) (hy : ev env y = some (.int kc i)) (h0 : 0 ≤ i) (hb : (b : Int) * i ≤ 281474976710656) (h63 : i ≤ 9223372036854775807)
    (hk : ∀ q w', w.heap.size ≤ q → Blk w' q (madeCells z.cells (i.toNat * sz)).toList e → Fr no w w' →
      H P fn R n (.ops L l :: k) .normal ((d, .slice (some ⟨q, 0, none⟩) i.toNat i.toNat) :: env) w') :
    H P fn R n (.ops L (⟨some d, .makeSlice t x y, ty, ps, af, g⟩ :: l) :: k) .normal env w := by
  obtain ⟨inf, hi, hzv, hs, hby⟩ := hz
  obtain ⟨h1, h2⟩ := ty_slice hT hty
  have hr := run_make (P := P) w t e inf z h1 hi hzv kl kc i i h0 (Int.le_refl _) (by rw [hby]; exact hb) h63
  rw [hs] at hr
  exact ev_op hg hd (.slice (some ⟨w.heap.size, 0, none⟩) i.toNat i.toNat) _ (fun a hA => by
    simp only [execOp, hA.ev hx, hA.ev hy]
    exact run_bind hr) (hk _ _ (Nat.le_refl _) (Blk.new _ _ _) (Fr.alloc _ _))

def allOne : List Value → Bool
  | [] => true
  | v :: r => match v.oneCell' with | true => allOne r | false => false
theorem allOne_ok : ∀ {l : List Value}, allOne l = true → ∀ v ∈ l, v.oneCell' = true
  | [], _, v, h => by cases h
  | u :: r, h, v, hv => by
    simp only [allOne] at h
    split at h
    · rename_i hu
      cases List.mem_cons.1 hv with
      | inl e => rw [e]; exact hu
      | inr e => exact allOne_ok h v e
    · cases h
/-- a struct stored over a whole block -/
theorem ev_storeAgg {k : List It} {env : Env} {L l : List Oper} {t : TypeId} {x y : Operand} {ty : TypeId} {ps : String} {af : Array Edge} {g : Option (Nat × Bool)} {tab : Tab} {b : Nat} {vs cs : List Value} {e : TypeId}
    (hT : TabOk P tab) (hg : guardOf L env g = some true) (hx : ev env x = some (.pointer (some ⟨b, 0, none⟩))) (hy : ev env y = some (.agg ⟨vs⟩)) (hag : aggT (tyAt tab t) = some true) (hs : szAt tab t = vs.length) (hv : allOne vs = true)
    (hb : Blk w b cs e) (hl : cs.length = vs.length)
    (hk : ∀ w', Blk w' b vs e → Fr (fun c => c = b) w w' → H P fn R n (.ops L l :: k) .normal env w') :
    H P fn R n (.ops L (⟨none, .store t x y, ty, ps, af, g⟩ :: l) :: k) .normal env w := by
  have hst := run_storeCells_at P b 0 e vs 0 ⟨cs⟩ w hb (by simp [hl]) (allOne_ok hv)
  refine ev_do hg (w.setRow b (((⟨cs⟩ : Array Value).toList.take (0 + 0) ++ vs ++ (⟨cs⟩ : Array Value).toList.drop (0 + 0 + vs.length)).toArray)) (fun a hA => by
    simp only [execOp, hA.ev hx, hA.ev hy]
    refine run_bind (a := ()) ?_
    unfold Instr.storeAt
    show Sem.run P ((Sem.pure _).bind _) w = _
    simp only [Sem.bind, storeVar]
    refine (run_bind (run_sizeOf (ty_size hT hag hs))).trans ?_
    simp only [Value.cells, List.size_toArray, ne_eq, not_true_eq_false, if_false]
    exact hst) (hk _ ?_ ?_)
  · have := setRow_heap w b ⟨cs⟩ (((⟨cs⟩ : Array Value).toList.take (0 + 0) ++ vs ++ (⟨cs⟩ : Array Value).toList.drop (0 + 0 + vs.length)).toArray) e _ hb
    unfold Blk
    rw [this]
    simp [hl]
  · exact ⟨rfl, rfl, rfl, by simp, fun c hc hn => setRow_other w b c _ (fun e => hn e)⟩

/-- append of what a slice holds -/
theorem ev_append {k : List It} {env : Env} {L l : List Oper} {d : Nat} {x y : Operand} {t : TypeId} {ty : TypeId} {ps : String} {af : Array Edge} {g : Option (Nat × Bool)} {tab : Tab} {e sz : Nat} {z : Value} {b : Nat} {v : Value} {nn : Nat} {xs : List Value} {A : Option Addr} {m c : Nat} {news : List Value}
    (hT : TabOk P tab) (hg : guardOf L env g = some true) (hd : Nat.blt d n = true) (hty : tyAt tab t = .slice e sz) (hz : Inf P e z sz b) (hzs : z.cells.size = sz) (hsz : 0 < sz)
    (hx : ev env x = some v) (hy : ev env y = some (.slice A m c)) (hown : Own w e sz v nn xs) (hc : Cs w A news) (hl : news.length = m * sz) (h1 : ∀ u ∈ news, u.oneCell' = true) (hbytes : (nn + m) * (b + 1) ≤ 140737488355328)
    (hk : ∀ v' w', Own w' e sz v' (nn + m) (xs ++ news) → Fr (fun q => v.ownBlock = some q) w w' → (v'.ownBlock = v.ownBlock ∨ v'.ownBlock = some w.heap.size) → H P fn R n (.ops L l :: k) .normal ((d, v') :: env) w') :
    H P fn R n (.ops L (⟨some d, .call ⟨.builtin .append, ⟨[x, y]⟩, ⟨[t, t]⟩⟩, ty, ps, af, g⟩ :: l) :: k) .normal env w := by
  obtain ⟨inf, hi, hzv, hs, hby⟩ := hz
  obtain ⟨ht, h2⟩ := ty_slice hT hty
  obtain ⟨v', w', hr, h3, h4, h5⟩ := run_app (P := P) w (ty := ty) ht hi hzv hs hzs hsz hown hl hc h1 (by rw [hby]; exact hbytes)
  exact ev_op hg hd v' w' (fun a hA => by
    simp only [execOp, resolve, List.map_toArray, List.map, hA.ev hx, hA.ev hy]
    exact run_bind hr) (hk v' w' h3 h4 h5)

/-- append of a string's bytes -/
theorem ev_appendStr {k : List It} {env : Env} {L l : List Oper} {d : Nat} {x y : Operand} {t u : TypeId} {ty : TypeId} {ps : String} {af : Array Edge} {g : Option (Nat × Bool)} {tab : Tab} {e : Nat} {v : Value} {nn : Nat} {xs : List Value} {s : List UInt8}
    (hT : TabOk P tab) (hg : guardOf L env g = some true) (hd : Nat.blt d n = true) (hty : tyAt tab t = .slice e 1) (hu : tyAt tab u = .str) (hz : Inf P e (.int .u8 0) 1 1)
    (hx : ev env x = some v) (hy : ev env y = some (.string (sOf s))) (hown : Own w e 1 v nn xs) (hbytes : nn + s.length ≤ 140737488355328)
    (hk : ∀ v' w', Own w' e 1 v' (nn + s.length) (xs ++ s.map bv) → Fr (fun q => v.ownBlock = some q) w w' → (v'.ownBlock = v.ownBlock ∨ v'.ownBlock = some w.heap.size) → H P fn R n (.ops L l :: k) .normal ((d, v') :: env) w') :
    H P fn R n (.ops L (⟨some d, .call ⟨.builtin .append, ⟨[x, y]⟩, ⟨[t, u]⟩⟩, ty, ps, af, g⟩ :: l) :: k) .normal env w := by
  obtain ⟨inf, hi, hzv, hs, hby⟩ := hz
  obtain ⟨ht, h2⟩ := ty_slice hT hty
  obtain ⟨v', w', hr, h3, h4, h5⟩ := run_app_str (P := P) w (ty := ty) ht (ty_str hT hu) hi hzv hs hby hown s hbytes
  exact ev_op hg hd v' w' (fun a hA => by
    simp only [execOp, resolve, List.map_toArray, List.map, hA.ev hx, hA.ev hy]
    exact run_bind hr) (hk v' w' h3 h4 h5)

/-- []byte(s) -/
theorem ev_bytesOf {k : List It} {env : Env} {L l : List Oper} {d : Nat} {x : Operand} {s t : TypeId} {ty : TypeId} {ps : String} {af : Array Edge} {g : Option (Nat × Bool)} {tab : Tab} {e sz : Nat} {r : List UInt8}
    (hT : TabOk P tab) (hg : guardOf L env g = some true) (hd : Nat.blt d n = true) (hs : tyAt tab s = .str) (ht : tyAt tab t = .slice e sz) (he : tyAt tab e = .int .u8) (hx : ev env x = some (.string (sOf r)))
    (hk : ∀ c w', Cs w' (some ⟨w.heap.size, 0, none⟩) (r.map bv) → Fr no w w' → r.length ≤ c → H P fn R n (.ops L l :: k) .normal ((d, .slice (some ⟨w.heap.size, 0, none⟩) r.length c) :: env) w') :
    H P fn R n (.ops L (⟨some d, .convert s t x, ty, ps, af, g⟩ :: l) :: k) .normal env w := by
  obtain ⟨h1, h2⟩ := ty_slice hT ht
  have hr := run_bytes_of_string (P := P) w s t e (sOf r) (ty_str hT hs) h1 (ty_int hT he)
  refine ev_op hg hd _ _ (fun a hA => by
    simp only [execOp, hA.ev hx]
    exact run_bind hr) (hk _ _ (fun j u hj => ⟨_, 0, rfl, ?_⟩) ((Fr.drew w).tr (Fr.alloc _ _)) (grownCap_ge _ _ _ _))
  have hlt : j < r.length := by simpa using (List.getElem?_eq_some_iff.1 hj).1
  have hnew := heap_alloc_new w.drew (.cells (bytesRow (sOf r) (grownCap w (sOf r).size 0 e)) e ((bytesRow (sOf r) (grownCap w (sOf r).size 0 e)).size, (bytesRow (sOf r) (grownCap w (sOf r).size 0 e)).size + 1))
  have hsz : w.drew.heap.size = w.heap.size := rfl
  rw [hsz] at hnew
  simp only [World.cell?, hnew, Nat.zero_add]
  simp only [List.getElem?_map, List.getElem?_eq_getElem hlt, Option.map_some, Option.some.injEq] at hj
  subst hj
  simp [bytesRow, Array.getElem?_append, hlt]
/-- what a row grew into begins in its own block or in a new one -/
def NB (w : World) (v v' : Value) : Prop := ∀ g, v'.ownBlock = some g → v.ownBlock = some g ∨ w.heap.size ≤ g
theorem NB.refl (w : World) (v : Value) : NB w v v := fun g h => .inl h
theorem NB.of {w : World} {v v' : Value} (h : v'.ownBlock = v.ownBlock ∨ v'.ownBlock = some w.heap.size) : NB w v v' := fun g hg => by
  rcases h with h | h
  · exact .inl (h ▸ hg)
  · rw [h] at hg; cases hg; exact .inr (Nat.le_refl _)
theorem NB.trans {w w1 : World} {v v1 v2 : Value} (h : NB w v v1) (h' : NB w1 v1 v2) (hs : w.heap.size ≤ w1.heap.size) : NB w v v2 := fun g hg => by
  rcases h' g hg with h1 | h1
  · exact h g h1
  · exact .inr (Nat.le_trans hs h1)

/-- append of a literal: the literal's row, then the append -/
theorem ev_append1 {k : List It} {env : Env} {L l : List Oper} {d1 d2 : Nat} {x : Operand} {t len : Nat} {parts : List (Nat × Operand)} {ty1 ty2 : TypeId} {ps1 ps2 : String} {af1 af2 : Array Edge} {g1 g2 : Option (Nat × Bool)} {tab : Tab} {e sz : Nat} {z : Value} {b : Nat} {v : Value} {nn : Nat} {xs vs : List Value}
    (hT : TabOk P tab) (hg1 : guardOf L env g1 = some true) (hd1 : Nat.blt d1 n = true) (hg2 : ∀ q, guardOf L ((d1, .slice (some ⟨q, 0, none⟩) len len) :: env) g2 = some true) (hd2 : Nat.blt d2 n = true)
    (hty : tyAt tab t = .slice e sz) (hz : Inf P e z sz b) (hzs : z.cells.size = sz) (hsz : 0 < sz) (hx : ∀ q, ev ((d1, .slice (some ⟨q, 0, none⟩) len len) :: env) x = some v)
    (hvs : evParts env 0 parts = some vs) (hl : vs.length = len) (hszv : ∀ v ∈ vs, v.cells.size = sz) (h1 : ∀ u ∈ flatV vs, u.oneCell' = true) (hsmall : Nat.ble (len * sz) 16777216 = true)
    (hown : Own w e sz v nn xs) (hbytes : (nn + len) * (b + 1) ≤ 140737488355328)
    (hk : ∀ v' w' q, Own w' e sz v' (nn + len) (xs ++ flatV vs) → Fr (fun q => v.ownBlock = some q) w w' → NB w v v' → H P fn R n (.ops L l :: k) .normal ((d2, v') :: (d1, .slice (some ⟨q, 0, none⟩) len len) :: env) w') :
    H P fn R n (.ops L (⟨some d1, .buildSlice t len ⟨parts⟩, ty1, ps1, af1, g1⟩ :: ⟨some d2, .call ⟨.builtin .append, ⟨[x, .tmp d1]⟩, ⟨[t, t]⟩⟩, ty2, ps2, af2, g2⟩ :: l) :: k) .normal env w := by
  refine ev_buildSlice hT hg1 hd1 hty hz hzs hvs hl hszv hsmall ?_
  intro q w1 hq hb hf
  have hlen : (flatV vs).length = len * sz := by
    rw [← hl]
    clear hvs h1 hk hb hl
    induction vs with
    | nil => simp [flatV]
    | cons u r ih =>
      have e1 := ih (fun v hv => hszv v (by simp [hv]))
      have e2 : u.cells.size = sz := hszv u (by simp)
      simp only [flatV, List.flatMap_cons, List.length_append, Array.length_toList, e2, List.length_cons] at e1 ⊢
      rw [e1, Nat.add_mul]; omega
  refine ev_append (z := z) (b := b) (xs := xs) (A := some ⟨q, 0, none⟩) (m := len) (c := len) (news := flatV vs) hT (hg2 q) hd2 hty hz hzs hsz (hx q) (by simp [ev, look_cons]) (hown.fr0 hf) (Cs.of_blk hb) hlen h1 hbytes ?_
  intro v' w2 ho hf2 hnb
  refine hk v' w2 q ho (hf.tr0 hf2) (fun g hg => ?_)
  rcases NB.of hnb g hg with h | h
  · exact .inl h
  · exact .inr (Nat.le_trans hf.size h)
/-- results, some of which stand in memory -/
def ResOk (tab : Tab) (env : Env) (w : World) : List ResultVar → List Value → Prop
  | [], [] => True
  | .tmp t :: r, v :: vs => look env t = some v ∧ ResOk tab env w r vs
  | .cell a t :: r, v :: vs => (∃ p, look env a = some (.pointer (some p)) ∧ ((aggT (tyAt tab t) = some true ∧ ∃ l, v = .agg ⟨l⟩ ∧ szAt tab t = l.length ∧ Cs w (some p) l) ∨ (aggT (tyAt tab t) = some false ∧ w.cell? p = some v))) ∧ ResOk tab env w r vs
  | _, _ => False
/-- one result -/
def resV (tmps : Array Value) : ResultVar → Sem Value
  | .tmp t => pure (tmps.getD t undef)
  | .cell a t => do loadVar t (← asAddr (tmps.getD a undef))
theorem resOk_run {tab : Tab} (hT : TabOk P tab) {env : Env} {a : Act} (hA : Ag n a env) : ∀ {rs : List ResultVar} {vs : List Value}, ResOk tab env w rs vs →
    (rs.mapM (resV a.tmps)).run P w = .ok vs w
  | [], [], _ => rfl
  | .tmp t :: r, v :: vs, h => by
    rw [List.mapM_cons]
    refine (run_bind (a := v) (w' := w) (by simp only [resV, hA.look h.1]; rfl)).trans ?_
    exact run_bind (resOk_run hT hA h.2)
  | .cell c t :: r, v :: vs, h => by
    obtain ⟨⟨p, hp, hv⟩, hr⟩ := h
    rw [List.mapM_cons]
    refine (run_bind (a := v) (w' := w) ?_).trans (run_bind (resOk_run hT hA hr))
    simp only [resV, hA.look hp]
    refine (run_bind (a := p) (w' := w) rfl).trans ?_
    unfold loadVar
    rcases hv with ⟨hag, l, rfl, hs, hc⟩ | ⟨hag, hc⟩
    · refine (run_bind (run_isAgg (ty_agg hT hag))).trans ?_
      simp only [if_true]
      refine (run_bind (run_sizeOf (ty_size hT hag hs))).trans ?_
      have := run_loadCells_list (P := P) w p l (fun j v hj => by
        obtain ⟨b, o, e, hcc⟩ := hc j v hj
        cases e
        rw [Addr.add_lit]; exact hcc)
      exact run_bind this
    · refine (run_bind (run_isAgg (ty_agg hT hag))).trans ?_
      simp only [Bool.false_eq_true, if_false]
      show Sem.run P (Sem.load .plain p Sem.pure) w = _
      simp only [Sem.run, hc]
  | [], _ :: _, h => h.elim
  | .tmp _ :: _, [], h => h.elim
  | .cell _ _ :: _, [], h => h.elim
def tupV : List Value → Value
  | [v] => v
  | vs => .tuple ⟨vs⟩
theorem retG {S : Value → World → Prop} {tab : Tab} {e : Exit} {env : Env} {rs : List ResultVar} (hT : TabOk P tab) (he : e = .normal ∨ e = .ret) (hr : fn.results = ⟨rs⟩) (vs : List Value) (hv : ResOk tab env w rs vs) (h : S (tupV vs) w) :
    H P fn (fun e w' => ∃ v, e = .returned v ∧ S v w') n [] e env w := by
  intro a hA
  have h1 : (results fn a.tmps).run P w = .ok (tupV vs) w := by
    have hres : results fn a.tmps = (do let vs ← fn.results.mapM (resV a.tmps); pure (if h : vs.size = 1 then vs[0] else .tuple vs)) := by
      unfold results
      congr 1
    rw [hres, hr]
    have h2 := resOk_run hT hA hv
    refine (run_bind (a := (⟨vs⟩ : Array Value)) (w' := w) ?_).trans ?_
    · have e1 : (⟨rs⟩ : Array ResultVar).mapM (resV a.tmps) = List.toArray <$> rs.mapM (resV a.tmps) := List.mapM_toArray
      rw [e1]
      show Sem.run P (List.toArray <$> rs.mapM (resV a.tmps)) w = _
      rw [← bind_pure_comp]
      exact run_bind h2
    · cases vs with
      | nil => rfl
      | cons v r => cases r with
        | nil => rfl
        | cons u q => simp [tupV]
  rcases he with rfl | rfl <;> exact ⟨hA.1, _, h1, _, rfl, h⟩
/-- reads of a block that is known whole -/
theorem ev_loadB {k : List It} {env : Env} {L l : List Oper} {d : Nat} {t : TypeId} {x : Operand} {ty : TypeId} {ps : String} {af : Array Edge} {g : Option (Nat × Bool)} {tab : Tab} {b o : Nat} {cs : List Value} {e : TypeId} {v : Value}
    (hg : guardOf L env g = some true) (hd : Nat.blt d n = true) (hT : TabOk P tab) (hx : ev env x = some (.pointer (some ⟨b, o, none⟩))) (hag : aggT (tyAt tab t) = some false) (hb : Blk w b cs e) (hv : nthV cs o = some v)
    (hk : H P fn R n (.ops L l :: k) .normal ((d, v) :: env) w) : H P fn R n (.ops L (⟨some d, .load t x, ty, ps, af, g⟩ :: l) :: k) .normal env w :=
  ev_load hg hd hT hx hag (hb.cell hv) hk
theorem ev_loadAggB {k : List It} {env : Env} {L l : List Oper} {d : Nat} {t : TypeId} {x : Operand} {ty : TypeId} {ps : String} {af : Array Edge} {g : Option (Nat × Bool)} {tab : Tab} {b : Nat} {cs : List Value} {e : TypeId}
    (hg : guardOf L env g = some true) (hd : Nat.blt d n = true) (hT : TabOk P tab) (hx : ev env x = some (.pointer (some ⟨b, 0, none⟩))) (hag : aggT (tyAt tab t) = some true) (hb : Blk w b cs e) (hs : szAt tab t = cs.length)
    (hk : H P fn R n (.ops L l :: k) .normal ((d, .agg ⟨cs⟩) :: env) w) : H P fn R n (.ops L (⟨some d, .load t x, ty, ps, af, g⟩ :: l) :: k) .normal env w :=
  ev_y hg hd (y_loadAgg hT hx hag hs (at_w (Cs.of_blk hb))) hk
end
end Go.Wk
set_option linter.unusedSimpArgs false
namespace Go.Wk
open Go

def HQ (P : Program) (C : World → Prop) (n : Nat) (Q : Act → Prop) (L l : List Oper) (env : Env) : Prop := ∀ a, Ag n a env → wpQuiet P L.toArray C Q l a

section
variable {P : Program} {C : World → Prop} {n : Nat} {Q : Act → Prop} {tab : Tab} {L l : List Oper} {env : Env}
theorem q_step (hT : TabOk P tab) {o : Oper} {env' : Env} (h : opStep tab n L env o = some env') (hk : HQ P C n Q L l env') : HQ P C n Q L (o :: l) env := by
  intro a hA
  unfold opStep at h
  split at h
  · rename_i d op ty ps af g
    split at h
    · rename_i hd
      have hd' : d < n := Nat.le_of_ble_eq_true hd
      split at h
      · rename_i hg
        have hw := guardOf_ok (o := ⟨some d, op, ty, ps, af, g⟩) hg hA
        split at h
        · rename_i v hv
          cases h
          unfold wpQuiet
          rw [if_pos hw]
          refine ⟨v, fun w _ => ?_, hk _ (hA.put hd' v)⟩
          unfold Oper.quietAt
          rw [pureVal_ok hT hA (o := ⟨some d, op, ty, ps, af, g⟩) hv w]
          exact ⟨rfl, rfl⟩
        · cases h
      · rename_i hg
        have hw := guardOf_ok (o := ⟨some d, op, ty, ps, af, g⟩) hg hA
        cases h
        unfold wpQuiet
        rw [if_neg (by simp [hw])]
        exact hk _ (hA.put hd' undef)
      · cases h
    · cases h
  · rename_i op ty ps af g
    split at h
    · rename_i hg
      have hw := guardOf_ok (o := ⟨none, op, ty, ps, af, g⟩) hg hA
      cases h
      unfold wpQuiet
      rw [if_neg (by simp [hw])]
      exact hk _ hA
    · cases h

def stepsQ (tab : Tab) (n : Nat) (L : List Oper) : Nat → List Oper → Env → Option (List Oper × Env)
  | 0, l, env => some (l, env)
  | m + 1, [], env => some ([], env)
  | m + 1, o :: l, env => match opStep tab n L env o with
    | some env' => stepsQ tab n L m l env'
    | none => some (o :: l, env)
theorem stepsQ_ok (hT : TabOk P tab) : ∀ (m : Nat) {l l' : List Oper} {env env' : Env}, stepsQ tab n L m l env = some (l', env') → HQ P C n Q L l' env' → HQ P C n Q L l env
  | 0, l, l', env, env', h, hk => by cases h; exact hk
  | m + 1, [], l', env, env', h, hk => by cases h; exact hk
  | m + 1, o :: l, l', env, env', h, hk => by
    simp only [stepsQ] at h
    split at h
    · rename_i e1 h1
      exact q_step hT h1 (stepsQ_ok hT m h hk)
    · cases h; exact hk
def stepQF (tab : Tab) (n : Nat) (L : List Oper) (m : Nat) : List Oper → Env → Option (List Oper × Env)
  | [], env => none
  | o :: l, env => match opStep tab n L env o with
    | some env' => stepsQ tab n L m l env'
    | none => none
theorem stepQF_ok (hT : TabOk P tab) {m : Nat} {l l' : List Oper} {env env' : Env} (h : stepQF tab n L m l env = some (l', env')) (hk : HQ P C n Q L l' env') : HQ P C n Q L l env := by
  unfold stepQF at h
  split at h
  · cases h
  · split at h
    · rename_i e1 h1
      exact q_step hT h1 (stepsQ_ok hT m h hk)
    · cases h

theorem q_y {d : Nat} {op : Op} {ty : TypeId} {ps : String} {af : Array Edge} {g : Option (Nat × Bool)} {v : Value}
    (hg : guardOf L env g = some true) (hd : Nat.blt d n = true) (hy : Yv P n env C ⟨some d, op, ty, ps, af, g⟩ v) (hk : HQ P C n Q L l ((d, v) :: env)) : HQ P C n Q L (⟨some d, op, ty, ps, af, g⟩ :: l) env := by
  intro a hA
  have hw := guardOf_ok (o := ⟨some d, op, ty, ps, af, g⟩) hg hA
  unfold wpQuiet
  rw [if_pos hw]
  refine ⟨v, fun w hc => ?_, hk _ (hA.put (Nat.le_of_ble_eq_true hd) v)⟩
  unfold Oper.quietAt
  rw [hy a hA w hc]
  exact ⟨rfl, rfl⟩

theorem q_call {d : Nat} {f : FuncId} {xs : List Operand} {ats : Array TypeId} {ty : TypeId} {ps : String} {af : Array Edge} {g : Option (Nat × Bool)} {vs : List Value} {v : Value}
    (hg : guardOf L env g = some true) (hd : Nat.blt d n = true) (hvs : evs env xs = some vs)
    (hc : ∀ w, C w → CallsF P f vs w fun u w' => u = v ∧ C w') (hk : HQ P C n Q L l ((d, v) :: env)) :
    HQ P C n Q L (⟨some d, .call ⟨.value (.func f), ⟨xs⟩, ats⟩, ty, ps, af, g⟩ :: l) env := by
  intro a hA
  have hw := guardOf_ok (o := ⟨some d, .call ⟨.value (.func f), ⟨xs⟩, ats⟩, ty, ps, af, g⟩) hg hA
  unfold wpQuiet
  rw [if_pos hw]
  refine ⟨v, fun w hcw => ?_, hk _ (hA.put (Nat.le_of_ble_eq_true hd) v)⟩
  unfold Oper.quietAt
  obtain ⟨⟨fc, h1, h2, h3⟩, hcalls⟩ := hc w hcw
  have hrun : (execOp a.eval ⟨some d, .call ⟨.value (.func f), ⟨xs⟩, ats⟩, ty, ps, af, g⟩).run P w = .ok (.enter f ⟨vs⟩) w := by
    have hargs : (⟨xs⟩ : Array Operand).map a.eval = ⟨vs⟩ := by
      have := hA.evs hvs
      simp [this]
    have hf : a.eval (.func f) = .func (.func f) #[] #[] := rfl
    simp only [execOp, resolve, hargs, hf, Deferred.ofValue]
    show Sem.run P ((Sem.pure _).bind _) w = _
    simp only [Sem.bind, invoke, callFunc]
    show Sem.run P ((Sem.program Sem.pure).bind _) w = _
    simp only [Sem.bind, Sem.run, h1, h2, h3]
    simp
  rw [hrun]
  refine ⟨rfl, hcalls.mono ?_⟩
  rintro e w' ⟨u, rfl, rfl, hw'⟩
  exact ⟨rfl, hw'⟩

theorem q_splitD (t : Nat) {p : Prop} [Decidable p] (hc : look env t = some (.bool (decide p)))
    (h1 : p → HQ P C n Q L l ((t, .bool true) :: env)) (h2 : ¬ p → HQ P C n Q L l ((t, .bool false) :: env)) : HQ P C n Q L l env := by
  intro a hA
  have key : ∀ c, decide p = c → Ag n a ((t, .bool c) :: env) := fun c hbc => by
    subst hbc
    refine ⟨hA.1, hA.2.1, fun s v hs => ?_⟩
    rw [look_cons] at hs
    split at hs
    · rename_i he; subst he; cases hs; exact hA.2.2 _ _ hc
    · exact hA.2.2 _ _ hs
  by_cases hp : p
  · exact h1 hp a (key true (by simp [hp]))
  · exact h2 hp a (key false (by simp [hp]))
theorem q_env (env' : Env) (hs : SubE env env') (hk : HQ P C n Q L l env') : HQ P C n Q L l env := fun a hA => hk a (hA.sub hs)
end

section
variable {P : Program} {fn : Func} {R : Ending → World → Prop} {n : Nat} {w : World}
/-- a region that draws its order, every operation of which is quiet in the worlds that come out of `w` by new memory -/
theorem ev_draw {k : List It} {env : Env} {id : Nat} {l : List Oper} (hm : P.follows .mixedOrders = true) (hB : Region.lexB .any ⟨l⟩ = true)
    (h : HQ P (Fr no w) n (fun a => ∀ w', Fr no w w' → semK P fn R k .normal a w') l l env) : H P fn R n (.code (.region id ⟨l⟩ true) :: k) .normal env w :=
  fun a hA => wp_region_quiet (C := Fr no w) hm hB (Fr.draw w) (by simpa using h a hA)
theorem q_end {C : World → Prop} {k : List It} {env : Env} {L : List Oper} (h : ∀ w', C w' → H P fn R n k .normal env w') : HQ P C n (fun a => ∀ w', C w' → semK P fn R k .normal a w') L [] env :=
  fun a hA w' hw' => h w' hw' a hA
end
end Go.Wk
namespace Go.Wk
open Go Go.Lib
section
variable {P : Program} {fn : Func} {R : Ending → World → Prop} {n : Nat} {w : World} {C : World → Prop} {Q : Act → Prop} {tab : Tab} {k : List It} {env : Env} {L l : List Oper} {d : Nat} {ty : TypeId} {ps : String} {af : Array Edge} {g : Option (Nat × Bool)}

theorem q_load {t : TypeId} {x : Operand} {p : Addr} {v : Value} (hg : guardOf L env g = some true) (hd : Nat.blt d n = true) (hT : TabOk P tab) (hx : ev env x = some (.pointer (some p))) (hag : aggT (tyAt tab t) = some false) (hc : ∀ w, C w → w.cell? p = some v)
    (hk : HQ P C n Q L l ((d, v) :: env)) : HQ P C n Q L (⟨some d, .load t x, ty, ps, af, g⟩ :: l) env :=
  q_y hg hd (y_load hT hx hag hc) hk
theorem ev_loadAgg {t : TypeId} {x : Operand} {p : Addr} {xs : List Value} (hg : guardOf L env g = some true) (hd : Nat.blt d n = true) (hT : TabOk P tab) (hx : ev env x = some (.pointer (some p))) (hag : aggT (tyAt tab t) = some true) (hs : szAt tab t = xs.length) (hc : Cs w (some p) xs)
    (hk : H P fn R n (.ops L l :: k) .normal ((d, (.agg ⟨xs⟩)) :: env) w) : H P fn R n (.ops L (⟨some d, .load t x, ty, ps, af, g⟩ :: l) :: k) .normal env w :=
  ev_y hg hd (y_loadAgg hT hx hag hs (at_w hc)) hk
theorem q_loadAgg {t : TypeId} {x : Operand} {p : Addr} {xs : List Value} (hg : guardOf L env g = some true) (hd : Nat.blt d n = true) (hT : TabOk P tab) (hx : ev env x = some (.pointer (some p))) (hag : aggT (tyAt tab t) = some true) (hs : szAt tab t = xs.length) (hc : ∀ w, C w → Cs w (some p) xs)
    (hk : HQ P C n Q L l ((d, (.agg ⟨xs⟩)) :: env)) : HQ P C n Q L (⟨some d, .load t x, ty, ps, af, g⟩ :: l) env :=
  q_y hg hd (y_loadAgg hT hx hag hs hc) hk
theorem ev_index {t : TypeId} {x y : Operand} {s : List UInt8} {kd : IntKind} {i : Int} (hg : guardOf L env g = some true) (hd : Nat.blt d n = true) (hT : TabOk P tab) (hx : ev env x = some (.string (sOf s))) (hy : ev env y = some (.int kd i)) (hty : tyAt tab t = .str) (h0 : 0 ≤ i) (h1 : i < s.length)
    (hk : H P fn R n (.ops L l :: k) .normal ((d, (bv (s.getD i.toNat 0))) :: env) w) : H P fn R n (.ops L (⟨some d, .index t x y, ty, ps, af, g⟩ :: l) :: k) .normal env w :=
  ev_y hg hd (y_index hT hx hy hty h0 h1) hk
theorem q_index {t : TypeId} {x y : Operand} {s : List UInt8} {kd : IntKind} {i : Int} (hg : guardOf L env g = some true) (hd : Nat.blt d n = true) (hT : TabOk P tab) (hx : ev env x = some (.string (sOf s))) (hy : ev env y = some (.int kd i)) (hty : tyAt tab t = .str) (h0 : 0 ≤ i) (h1 : i < s.length)
    (hk : HQ P C n Q L l ((d, (bv (s.getD i.toNat 0))) :: env)) : HQ P C n Q L (⟨some d, .index t x y, ty, ps, af, g⟩ :: l) env :=
  q_y hg hd (y_index hT hx hy hty h0 h1) hk
theorem ev_indexA {t : TypeId} {x y : Operand} {cs : List Value} {kd : IntKind} {i : Int} {len e s : Nat} {b : Bool} {v : Value} (hg : guardOf L env g = some true) (hd : Nat.blt d n = true) (hT : TabOk P tab) (hx : ev env x = some (.agg ⟨cs⟩)) (hy : ev env y = some (.int kd i)) (hty : tyAt tab t = .arr len e s b) (h0 : 0 ≤ i) (h1 : i < len) (hv : partV cs (i.toNat * s) s b = some v)
    (hk : H P fn R n (.ops L l :: k) .normal ((d, v) :: env) w) : H P fn R n (.ops L (⟨some d, .index t x y, ty, ps, af, g⟩ :: l) :: k) .normal env w :=
  ev_y hg hd (y_indexA hT hx hy hty h0 h1 hv) hk
theorem q_indexA {t : TypeId} {x y : Operand} {cs : List Value} {kd : IntKind} {i : Int} {len e s : Nat} {b : Bool} {v : Value} (hg : guardOf L env g = some true) (hd : Nat.blt d n = true) (hT : TabOk P tab) (hx : ev env x = some (.agg ⟨cs⟩)) (hy : ev env y = some (.int kd i)) (hty : tyAt tab t = .arr len e s b) (h0 : 0 ≤ i) (h1 : i < len) (hv : partV cs (i.toNat * s) s b = some v)
    (hk : HQ P C n Q L l ((d, v) :: env)) : HQ P C n Q L (⟨some d, .index t x y, ty, ps, af, g⟩ :: l) env :=
  q_y hg hd (y_indexA hT hx hy hty h0 h1 hv) hk
theorem ev_arith {op : BinOp} {t t' : TypeId} {x y : Operand} {kd : IntKind} {a b r : Int} (hg : guardOf L env g = some true) (hd : Nat.blt d n = true) (hx : ev env x = some (.int kd a)) (hy : ev env y = some (.int kd b)) (hr : arithV op a b = some r) (h1 : lowK kd ≤ r ∧ r ≤ hiK kd)
    (hk : H P fn R n (.ops L l :: k) .normal ((d, (.int kd r)) :: env) w) : H P fn R n (.ops L (⟨some d, .binOp op t x y t', ty, ps, af, g⟩ :: l) :: k) .normal env w :=
  ev_y hg hd (y_arith hx hy hr h1) hk
theorem q_arith {op : BinOp} {t t' : TypeId} {x y : Operand} {kd : IntKind} {a b r : Int} (hg : guardOf L env g = some true) (hd : Nat.blt d n = true) (hx : ev env x = some (.int kd a)) (hy : ev env y = some (.int kd b)) (hr : arithV op a b = some r) (h1 : lowK kd ≤ r ∧ r ≤ hiK kd)
    (hk : HQ P C n Q L l ((d, (.int kd r)) :: env)) : HQ P C n Q L (⟨some d, .binOp op t x y t', ty, ps, af, g⟩ :: l) env :=
  q_y hg hd (y_arith hx hy hr h1) hk
theorem ev_arithW {op : BinOp} {t t' : TypeId} {x y : Operand} {kd : IntKind} {a b r : Int} (hg : guardOf L env g = some true) (hd : Nat.blt d n = true) (hx : ev env x = some (.int kd a)) (hy : ev env y = some (.int kd b)) (hr : arithV op a b = some r)
    (hk : H P fn R n (.ops L l :: k) .normal ((d, (.int kd (kd.wrap r))) :: env) w) : H P fn R n (.ops L (⟨some d, .binOp op t x y t', ty, ps, af, g⟩ :: l) :: k) .normal env w :=
  ev_y hg hd (y_arithW hx hy hr) hk
theorem q_arithW {op : BinOp} {t t' : TypeId} {x y : Operand} {kd : IntKind} {a b r : Int} (hg : guardOf L env g = some true) (hd : Nat.blt d n = true) (hx : ev env x = some (.int kd a)) (hy : ev env y = some (.int kd b)) (hr : arithV op a b = some r)
    (hk : HQ P C n Q L l ((d, (.int kd (kd.wrap r))) :: env)) : HQ P C n Q L (⟨some d, .binOp op t x y t', ty, ps, af, g⟩ :: l) env :=
  q_y hg hd (y_arithW hx hy hr) hk
theorem ev_quo {t t' : TypeId} {x y : Operand} {kd : IntKind} {a b : Int} (hg : guardOf L env g = some true) (hd : Nat.blt d n = true) (hx : ev env x = some (.int kd a)) (hy : ev env y = some (.int kd b)) (h0 : 0 ≤ a) (hb : 0 < b) (h2 : a ≤ hiK kd)
    (hk : H P fn R n (.ops L l :: k) .normal ((d, (.int kd (a / b))) :: env) w) : H P fn R n (.ops L (⟨some d, .binOp .quo t x y t', ty, ps, af, g⟩ :: l) :: k) .normal env w :=
  ev_y hg hd (y_quo hx hy h0 hb h2) hk
theorem q_quo {t t' : TypeId} {x y : Operand} {kd : IntKind} {a b : Int} (hg : guardOf L env g = some true) (hd : Nat.blt d n = true) (hx : ev env x = some (.int kd a)) (hy : ev env y = some (.int kd b)) (h0 : 0 ≤ a) (hb : 0 < b) (h2 : a ≤ hiK kd)
    (hk : HQ P C n Q L l ((d, (.int kd (a / b))) :: env)) : HQ P C n Q L (⟨some d, .binOp .quo t x y t', ty, ps, af, g⟩ :: l) env :=
  q_y hg hd (y_quo hx hy h0 hb h2) hk
theorem ev_rem {t t' : TypeId} {x y : Operand} {kd : IntKind} {a b : Int} (hg : guardOf L env g = some true) (hd : Nat.blt d n = true) (hx : ev env x = some (.int kd a)) (hy : ev env y = some (.int kd b)) (h0 : 0 ≤ a) (hb : 0 < b)
    (hk : H P fn R n (.ops L l :: k) .normal ((d, (.int kd (a % b))) :: env) w) : H P fn R n (.ops L (⟨some d, .binOp .rem t x y t', ty, ps, af, g⟩ :: l) :: k) .normal env w :=
  ev_y hg hd (y_rem hx hy h0 hb) hk
theorem q_rem {t t' : TypeId} {x y : Operand} {kd : IntKind} {a b : Int} (hg : guardOf L env g = some true) (hd : Nat.blt d n = true) (hx : ev env x = some (.int kd a)) (hy : ev env y = some (.int kd b)) (h0 : 0 ≤ a) (hb : 0 < b)
    (hk : HQ P C n Q L l ((d, (.int kd (a % b))) :: env)) : HQ P C n Q L (⟨some d, .binOp .rem t x y t', ty, ps, af, g⟩ :: l) env :=
  q_y hg hd (y_rem hx hy h0 hb) hk
theorem ev_remT {t t' : TypeId} {x y : Operand} {kd : IntKind} {a b : Int} (hg : guardOf L env g = some true) (hd : Nat.blt d n = true) (hx : ev env x = some (.int kd a)) (hy : ev env y = some (.int kd b)) (hb : b ≠ 0)
    (hk : H P fn R n (.ops L l :: k) .normal ((d, (.int kd (a.tmod b))) :: env) w) : H P fn R n (.ops L (⟨some d, .binOp .rem t x y t', ty, ps, af, g⟩ :: l) :: k) .normal env w :=
  ev_y hg hd (y_remT hx hy hb) hk
theorem q_remT {t t' : TypeId} {x y : Operand} {kd : IntKind} {a b : Int} (hg : guardOf L env g = some true) (hd : Nat.blt d n = true) (hx : ev env x = some (.int kd a)) (hy : ev env y = some (.int kd b)) (hb : b ≠ 0)
    (hk : HQ P C n Q L l ((d, (.int kd (a.tmod b))) :: env)) : HQ P C n Q L (⟨some d, .binOp .rem t x y t', ty, ps, af, g⟩ :: l) env :=
  q_y hg hd (y_remT hx hy hb) hk
theorem ev_shl {t t' : TypeId} {x y : Operand} {k1 k2 : IntKind} {a b : Int} (hg : guardOf L env g = some true) (hd : Nat.blt d n = true) (hx : ev env x = some (.int k1 a)) (hy : ev env y = some (.int k2 b)) (h0 : 0 ≤ b) (h1 : b ≤ k1.bits)
    (hk : H P fn R n (.ops L l :: k) .normal ((d, (.int k1 (k1.wrap (a * 2 ^ b.toNat)))) :: env) w) : H P fn R n (.ops L (⟨some d, .binOp .shl t x y t', ty, ps, af, g⟩ :: l) :: k) .normal env w :=
  ev_y hg hd (y_shl hx hy h0 h1) hk
theorem q_shl {t t' : TypeId} {x y : Operand} {k1 k2 : IntKind} {a b : Int} (hg : guardOf L env g = some true) (hd : Nat.blt d n = true) (hx : ev env x = some (.int k1 a)) (hy : ev env y = some (.int k2 b)) (h0 : 0 ≤ b) (h1 : b ≤ k1.bits)
    (hk : HQ P C n Q L l ((d, (.int k1 (k1.wrap (a * 2 ^ b.toNat)))) :: env)) : HQ P C n Q L (⟨some d, .binOp .shl t x y t', ty, ps, af, g⟩ :: l) env :=
  q_y hg hd (y_shl hx hy h0 h1) hk
theorem ev_shr {t t' : TypeId} {x y : Operand} {k1 k2 : IntKind} {a b : Int} (hg : guardOf L env g = some true) (hd : Nat.blt d n = true) (hx : ev env x = some (.int k1 a)) (hy : ev env y = some (.int k2 b)) (h0 : 0 ≤ b) (h1 : b ≤ k1.bits)
    (hk : H P fn R n (.ops L l :: k) .normal ((d, (.int k1 (a.fdiv (2 ^ b.toNat)))) :: env) w) : H P fn R n (.ops L (⟨some d, .binOp .shr t x y t', ty, ps, af, g⟩ :: l) :: k) .normal env w :=
  ev_y hg hd (y_shr hx hy h0 h1) hk
theorem q_shr {t t' : TypeId} {x y : Operand} {k1 k2 : IntKind} {a b : Int} (hg : guardOf L env g = some true) (hd : Nat.blt d n = true) (hx : ev env x = some (.int k1 a)) (hy : ev env y = some (.int k2 b)) (h0 : 0 ≤ b) (h1 : b ≤ k1.bits)
    (hk : HQ P C n Q L l ((d, (.int k1 (a.fdiv (2 ^ b.toNat)))) :: env)) : HQ P C n Q L (⟨some d, .binOp .shr t x y t', ty, ps, af, g⟩ :: l) env :=
  q_y hg hd (y_shr hx hy h0 h1) hk
theorem ev_conv {s t : TypeId} {x : Operand} {k1 k2 : IntKind} {a : Int} (hg : guardOf L env g = some true) (hd : Nat.blt d n = true) (hT : TabOk P tab) (hx : ev env x = some (.int k1 a)) (hs : tyAt tab s = .int k1) (ht : tyAt tab t = .int k2) (h : lowK k2 ≤ a ∧ a ≤ hiK k2)
    (hk : H P fn R n (.ops L l :: k) .normal ((d, (.int k2 a)) :: env) w) : H P fn R n (.ops L (⟨some d, .convert s t x, ty, ps, af, g⟩ :: l) :: k) .normal env w :=
  ev_y hg hd (y_conv hT hx hs ht h) hk
theorem q_conv {s t : TypeId} {x : Operand} {k1 k2 : IntKind} {a : Int} (hg : guardOf L env g = some true) (hd : Nat.blt d n = true) (hT : TabOk P tab) (hx : ev env x = some (.int k1 a)) (hs : tyAt tab s = .int k1) (ht : tyAt tab t = .int k2) (h : lowK k2 ≤ a ∧ a ≤ hiK k2)
    (hk : HQ P C n Q L l ((d, (.int k2 a)) :: env)) : HQ P C n Q L (⟨some d, .convert s t x, ty, ps, af, g⟩ :: l) env :=
  q_y hg hd (y_conv hT hx hs ht h) hk
theorem ev_convB {s t : TypeId} {x : Operand} {k2 : IntKind} {b : UInt8} (hg : guardOf L env g = some true) (hd : Nat.blt d n = true) (hT : TabOk P tab) (hx : ev env x = some (bv b)) (hs : tyAt tab s = .int .u8) (ht : tyAt tab t = .int k2) (h : fits8 k2 = true)
    (hk : H P fn R n (.ops L l :: k) .normal ((d, (.int k2 (b.toNat : Int))) :: env) w) : H P fn R n (.ops L (⟨some d, .convert s t x, ty, ps, af, g⟩ :: l) :: k) .normal env w :=
  ev_y hg hd (y_convB hT hx hs ht h) hk
theorem q_convB {s t : TypeId} {x : Operand} {k2 : IntKind} {b : UInt8} (hg : guardOf L env g = some true) (hd : Nat.blt d n = true) (hT : TabOk P tab) (hx : ev env x = some (bv b)) (hs : tyAt tab s = .int .u8) (ht : tyAt tab t = .int k2) (h : fits8 k2 = true)
    (hk : HQ P C n Q L l ((d, (.int k2 (b.toNat : Int))) :: env)) : HQ P C n Q L (⟨some d, .convert s t x, ty, ps, af, g⟩ :: l) env :=
  q_y hg hd (y_convB hT hx hs ht h) hk
theorem ev_convW {s t : TypeId} {x : Operand} {k1 k2 : IntKind} {a : Int} (hg : guardOf L env g = some true) (hd : Nat.blt d n = true) (hT : TabOk P tab) (hx : ev env x = some (.int k1 a)) (hs : tyAt tab s = .int k1) (ht : tyAt tab t = .int k2)
    (hk : H P fn R n (.ops L l :: k) .normal ((d, (.int k2 (k2.wrap a))) :: env) w) : H P fn R n (.ops L (⟨some d, .convert s t x, ty, ps, af, g⟩ :: l) :: k) .normal env w :=
  ev_y hg hd (y_convW hT hx hs ht) hk
theorem q_convW {s t : TypeId} {x : Operand} {k1 k2 : IntKind} {a : Int} (hg : guardOf L env g = some true) (hd : Nat.blt d n = true) (hT : TabOk P tab) (hx : ev env x = some (.int k1 a)) (hs : tyAt tab s = .int k1) (ht : tyAt tab t = .int k2)
    (hk : HQ P C n Q L l ((d, (.int k2 (k2.wrap a))) :: env)) : HQ P C n Q L (⟨some d, .convert s t x, ty, ps, af, g⟩ :: l) env :=
  q_y hg hd (y_convW hT hx hs ht) hk
theorem ev_concat {t t' : TypeId} {x y : Operand} {s u : List UInt8} (hg : guardOf L env g = some true) (hd : Nat.blt d n = true) (hx : ev env x = some (.string (sOf s))) (hy : ev env y = some (.string (sOf u))) (h : s.length + u.length ≤ 9223372036854775807)
    (hk : H P fn R n (.ops L l :: k) .normal ((d, (.string (sOf (s ++ u)))) :: env) w) : H P fn R n (.ops L (⟨some d, .binOp .add t x y t', ty, ps, af, g⟩ :: l) :: k) .normal env w :=
  ev_y hg hd (y_concat hx hy h) hk
theorem q_concat {t t' : TypeId} {x y : Operand} {s u : List UInt8} (hg : guardOf L env g = some true) (hd : Nat.blt d n = true) (hx : ev env x = some (.string (sOf s))) (hy : ev env y = some (.string (sOf u))) (h : s.length + u.length ≤ 9223372036854775807)
    (hk : HQ P C n Q L l ((d, (.string (sOf (s ++ u)))) :: env)) : HQ P C n Q L (⟨some d, .binOp .add t x y t', ty, ps, af, g⟩ :: l) env :=
  q_y hg hd (y_concat hx hy h) hk
theorem ev_sliceStr {t : TypeId} {x : Operand} {lo hi : Option Operand} {s : List UInt8} {i j : Int} (hg : guardOf L env g = some true) (hd : Nat.blt d n = true) (hT : TabOk P tab) (hx : ev env x = some (.string (sOf s))) (hty : tyAt tab t = .str) (hj : bnd env (s.length : Nat) hi = some j) (hlo : bnd env (0 : Nat) lo = some i) (h0 : 0 ≤ i) (h1 : i ≤ j) (h2 : j ≤ s.length)
    (hk : H P fn R n (.ops L l :: k) .normal ((d, (.string (sOf ((s.take j.toNat).drop i.toNat)))) :: env) w) : H P fn R n (.ops L (⟨some d, .slice t x lo hi none, ty, ps, af, g⟩ :: l) :: k) .normal env w :=
  ev_y hg hd (y_sliceStr hT hx hty hj hlo h0 h1 h2) hk
theorem q_sliceStr {t : TypeId} {x : Operand} {lo hi : Option Operand} {s : List UInt8} {i j : Int} (hg : guardOf L env g = some true) (hd : Nat.blt d n = true) (hT : TabOk P tab) (hx : ev env x = some (.string (sOf s))) (hty : tyAt tab t = .str) (hj : bnd env (s.length : Nat) hi = some j) (hlo : bnd env (0 : Nat) lo = some i) (h0 : 0 ≤ i) (h1 : i ≤ j) (h2 : j ≤ s.length)
    (hk : HQ P C n Q L l ((d, (.string (sOf ((s.take j.toNat).drop i.toNat)))) :: env)) : HQ P C n Q L (⟨some d, .slice t x lo hi none, ty, ps, af, g⟩ :: l) env :=
  q_y hg hd (y_sliceStr hT hx hty hj hlo h0 h1 h2) hk
theorem ev_slice {t e sz : Nat} {x : Operand} {lo hi : Option Operand} {A : Option Addr} {len cap : Nat} {i j : Int} (hg : guardOf L env g = some true) (hd : Nat.blt d n = true) (hT : TabOk P tab) (hx : ev env x = some (.slice A len cap)) (hty : tyAt tab t = .slice e sz) (hj : bnd env (len : Nat) hi = some j) (hlo : bnd env (0 : Nat) lo = some i) (h0 : 0 ≤ i) (h1 : i ≤ j) (h2 : j ≤ cap)
    (hk : H P fn R n (.ops L l :: k) .normal ((d, (.slice (cutA sz i.toNat cap A) (j.toNat - i.toNat) (cap - i.toNat))) :: env) w) : H P fn R n (.ops L (⟨some d, .slice t x lo hi none, ty, ps, af, g⟩ :: l) :: k) .normal env w :=
  ev_y hg hd (y_slice hT hx hty hj hlo h0 h1 h2) hk
theorem q_slice {t e sz : Nat} {x : Operand} {lo hi : Option Operand} {A : Option Addr} {len cap : Nat} {i j : Int} (hg : guardOf L env g = some true) (hd : Nat.blt d n = true) (hT : TabOk P tab) (hx : ev env x = some (.slice A len cap)) (hty : tyAt tab t = .slice e sz) (hj : bnd env (len : Nat) hi = some j) (hlo : bnd env (0 : Nat) lo = some i) (h0 : 0 ≤ i) (h1 : i ≤ j) (h2 : j ≤ cap)
    (hk : HQ P C n Q L l ((d, (.slice (cutA sz i.toNat cap A) (j.toNat - i.toNat) (cap - i.toNat))) :: env)) : HQ P C n Q L (⟨some d, .slice t x lo hi none, ty, ps, af, g⟩ :: l) env :=
  q_y hg hd (y_slice hT hx hty hj hlo h0 h1 h2) hk
theorem ev_indexAddr {t e sz : Nat} {x y : Operand} {b o len cap : Nat} {kd : IntKind} {i : Int} (hg : guardOf L env g = some true) (hd : Nat.blt d n = true) (hT : TabOk P tab) (hx : ev env x = some (.slice (some ⟨b, o, none⟩) len cap)) (hy : ev env y = some (.int kd i)) (hty : tyAt tab t = .slice e sz) (h0 : 0 ≤ i) (h1 : i < len)
    (hk : H P fn R n (.ops L l :: k) .normal ((d, (.pointer (some ⟨b, o + i.toNat * sz, none⟩))) :: env) w) : H P fn R n (.ops L (⟨some d, .indexAddr t x y, ty, ps, af, g⟩ :: l) :: k) .normal env w :=
  ev_y hg hd (y_indexAddr hT hx hy hty h0 h1) hk
theorem q_indexAddr {t e sz : Nat} {x y : Operand} {b o len cap : Nat} {kd : IntKind} {i : Int} (hg : guardOf L env g = some true) (hd : Nat.blt d n = true) (hT : TabOk P tab) (hx : ev env x = some (.slice (some ⟨b, o, none⟩) len cap)) (hy : ev env y = some (.int kd i)) (hty : tyAt tab t = .slice e sz) (h0 : 0 ≤ i) (h1 : i < len)
    (hk : HQ P C n Q L l ((d, (.pointer (some ⟨b, o + i.toNat * sz, none⟩))) :: env)) : HQ P C n Q L (⟨some d, .indexAddr t x y, ty, ps, af, g⟩ :: l) env :=
  q_y hg hd (y_indexAddr hT hx hy hty h0 h1) hk
theorem ev_strOf {s t e : TypeId} {sz : Nat} {x : Operand} {A : Option Addr} {cap : Nat} {bs : List UInt8} (hg : guardOf L env g = some true) (hd : Nat.blt d n = true) (hT : TabOk P tab) (hx : ev env x = some (.slice A bs.length cap)) (hs : tyAt tab s = .slice e sz) (he : tyAt tab e = .int .u8) (ht : tyAt tab t = .str) (hc : Cs w A (bs.map bv))
    (hk : H P fn R n (.ops L l :: k) .normal ((d, (.string (sOf bs))) :: env) w) : H P fn R n (.ops L (⟨some d, .convert s t x, ty, ps, af, g⟩ :: l) :: k) .normal env w :=
  ev_y hg hd (y_strOf hT hx hs he ht (at_w hc)) hk
theorem q_strOf {s t e : TypeId} {sz : Nat} {x : Operand} {A : Option Addr} {cap : Nat} {bs : List UInt8} (hg : guardOf L env g = some true) (hd : Nat.blt d n = true) (hT : TabOk P tab) (hx : ev env x = some (.slice A bs.length cap)) (hs : tyAt tab s = .slice e sz) (he : tyAt tab e = .int .u8) (ht : tyAt tab t = .str) (hc : ∀ w, C w → Cs w A (bs.map bv))
    (hk : HQ P C n Q L l ((d, (.string (sOf bs))) :: env)) : HQ P C n Q L (⟨some d, .convert s t x, ty, ps, af, g⟩ :: l) env :=
  q_y hg hd (y_strOf hT hx hs he ht hc) hk
theorem ev_build {t : TypeId} {parts : List (Nat × Operand)} {v : Value} {vs : List (Nat × Value)} (hg : guardOf L env g = some true) (hd : Nat.blt d n = true) (hvs : evPairs env parts = some vs) (hrun : ∀ w, (Instr.build t ⟨vs⟩).run P w = .ok v w)
    (hk : H P fn R n (.ops L l :: k) .normal ((d, v) :: env) w) : H P fn R n (.ops L (⟨some d, .build t ⟨parts⟩, ty, ps, af, g⟩ :: l) :: k) .normal env w :=
  ev_y hg hd (y_build hvs hrun) hk
theorem q_build {t : TypeId} {parts : List (Nat × Operand)} {v : Value} {vs : List (Nat × Value)} (hg : guardOf L env g = some true) (hd : Nat.blt d n = true) (hvs : evPairs env parts = some vs) (hrun : ∀ w, (Instr.build t ⟨vs⟩).run P w = .ok v w)
    (hk : HQ P C n Q L l ((d, v) :: env)) : HQ P C n Q L (⟨some d, .build t ⟨parts⟩, ty, ps, af, g⟩ :: l) env :=
  q_y hg hd (y_build hvs hrun) hk
end
end Go.Wk
