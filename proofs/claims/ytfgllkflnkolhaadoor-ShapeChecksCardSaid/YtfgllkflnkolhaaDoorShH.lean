/-
  Chapter 16: rows of a model's own, side by side; what Sample makes.
-/
import Derived.Test.YtfgllkflnkolhaaDoorShG
set_option linter.unusedVariables false
namespace Go.Wk.YtfgllkflnkolhaaDoor
open Go Go.Wk Go.Proofs

/-- a row of one's own, in a new block -/
def OR (w0 w : World) (r : Rw) : Prop := Own w 56 1 r.v r.xs.length (r.xs.map i8v) ∧ ∀ g, r.v.ownBlock = some g → w0.heap.size ≤ g
theorem OR.fr {S : Nat → Prop} {w0 w w' : World} {r : Rw} (h : OR w0 w r) (hf : Fr S w w') (hn : ∀ g, r.v.ownBlock = some g → ¬ S g) : OR w0 w' r := ⟨h.1.fr hf hn, h.2⟩
theorem OR.fr0 {w0 w w' : World} {r : Rw} (h : OR w0 w r) (hf : Fr no w w') : OR w0 w' r := h.fr hf fun _ _ => id
theorem OR.lt {w0 w : World} {r : Rw} (h : OR w0 w r) {g : Nat} (hg : r.v.ownBlock = some g) : g < w.heap.size := h.1.lt hg
theorem OR.At {w0 w : World} {r : Rw} (h : OR w0 w r) : r.At w := by
  obtain ⟨A, c, e, h1, _⟩ := h.1.slice
  have e1 : r.A = A := by have : r.v = .slice A r.xs.length c := e; injection this
  show Cs w r.A _
  rw [e1]; exact h1
abbrev apR (r r' : Rw) : Prop := ∀ g, r.v.ownBlock = some g → r'.v.ownBlock ≠ some g
/-- the row of a whole block -/
abbrev rowB (q : Nat) (xs : List Int8) : Rw := ⟨some ⟨q, 0, none⟩, xs.length, xs⟩
theorem OR.of {w0 w : World} {q : Nat} {xs : List Int8} (h : R8 w q xs) (hq : w0.heap.size ≤ q) (hl : xs.length ≤ 1000000000) : OR w0 w (rowB q xs) :=
  ⟨own_of_blk h (by rw [List.length_map, Nat.mul_one]) (Nat.le_trans hl (by omega)), fun g hg => by cases hg; exact hq⟩
theorem OR.ofN {w0 w1 w : World} {v : Value} {xs : List Int8} (h : N8 w1 w v xs) (hs : w0.heap.size ≤ w1.heap.size) : ∃ r : Rw, v = r.v ∧ r.xs = xs ∧ OR w0 w r ∧ ∀ g, r.v.ownBlock = some g → w1.heap.size ≤ g := by
  obtain ⟨A, c, e, _, _⟩ := h.1.slice
  subst e
  exact ⟨⟨A, c, xs⟩, rfl, rfl, ⟨h.1, fun g hg => Nat.le_trans hs (h.2.1 g hg)⟩, h.2.1⟩
/-- a model that is being made: its block, its generator, its rows; O: other blocks -/
structure SP (T : TypeId) (w0 w : World) (b x : Nat) (cells : List Value) (st : Nat) (R : List Rw) (O : Nat → Prop) : Prop where
  blk : Blk w b cells T
  mkr : Mk w x st
  rows : ∀ r ∈ R, OR w0 w r ∧ r.v.ownBlock ≠ some b ∧ r.v.ownBlock ≠ some x ∧ ∀ g, r.v.ownBlock = some g → ¬ O g
  ap : R.Pairwise apR
  fr : Fr no w0 w
  geb : w0.heap.size ≤ b
  gex : w0.heap.size ≤ x
  ne : b ≠ x
  oth : ∀ c, O c → c < w.heap.size ∧ c ≠ b ∧ c ≠ x
section
variable {T : TypeId} {w0 w w' : World} {b x : Nat} {cells cells' : List Value} {st st' : Nat} {R : List Rw} {O : Nat → Prop}
theorem SP.fr0 (h : SP T w0 w b x cells st R O) (hf : Fr no w w') : SP T w0 w' b x cells st R O :=
  ⟨h.blk.fr0 hf, h.mkr.fr0 hf, fun r hr => have z := h.rows r hr; ⟨z.1.fr0 hf, z.2⟩, h.ap, h.fr.tr hf, h.geb, h.gex, h.ne, fun c hc => have z := h.oth c hc; ⟨Nat.lt_of_lt_of_le z.1 hf.size, z.2⟩⟩
theorem SP.set (h : SP T w0 w b x cells st R O) (hB : Blk w' b cells' T) (hf : Fr (fun c => c = b) w w') : SP T w0 w' b x cells' st R O :=
  ⟨hB, h.mkr.fr hf (fun e => h.ne e.symm), fun r hr => have z := h.rows r hr; ⟨z.1.fr hf (fun g hg e => z.2.1 (by rw [hg, e])), z.2⟩, h.ap, h.fr.trans hf fun c hc e => by have : c = b := e; have := h.geb; omega, h.geb, h.gex, h.ne, fun c hc => have z := h.oth c hc; ⟨Nat.lt_of_lt_of_le z.1 hf.size, z.2⟩⟩
/-- another block is written -/
theorem SP.other (h : SP T w0 w b x cells st R O) {p : Nat} (hp : O p) (hp0 : w0.heap.size ≤ p) (hf : Fr (fun c => c = p) w w') : SP T w0 w' b x cells st R O :=
  have z := h.oth p hp
  ⟨h.blk.fr hf (fun e => z.2.1 e.symm), h.mkr.fr hf (fun e => z.2.2 e.symm), fun r hr => have y := h.rows r hr; ⟨y.1.fr hf (fun g hg e => y.2.2.2 g hg (by have : g = p := e; rw [this]; exact hp)), y.2⟩, h.ap, h.fr.trans hf fun c hc e => by have : c = p := e; omega, h.geb, h.gex, h.ne, fun c hc => have z := h.oth c hc; ⟨Nat.lt_of_lt_of_le z.1 hf.size, z.2⟩⟩
/-- other blocks besides: new ones -/
theorem SP.more (h : SP T w0 w b x cells st R O) {O' : Nat → Prop} (hO : ∀ c, O' c → O c ∨ (c < w'.heap.size ∧ w.heap.size ≤ c)) (hf : Fr no w w') : SP T w0 w' b x cells st R O' := by
  have h' := h.fr0 hf
  refine ⟨h'.blk, h'.mkr, fun r hr => have z := h'.rows r hr; ⟨z.1, z.2.1, z.2.2.1, fun g hg e => ?_⟩, h'.ap, h'.fr, h.geb, h.gex, h.ne, fun c hc => ?_⟩
  · rcases hO g e with y | y
    · exact z.2.2.2 g hg y
    · have := (h.rows r hr).1.lt hg; omega
  · rcases hO c hc with y | y
    · exact h'.oth c y
    · have h1 := h.blk.lt
      have h2 := h.mkr.lt
      exact ⟨y.1, by omega, by omega⟩
/-- a new row -/
theorem SP.add (h : SP T w0 w b x cells st R O) {r : Rw} (hr : OR w0 w' r) (hn : ∀ g, r.v.ownBlock = some g → w.heap.size ≤ g) (hf : Fr no w w') : SP T w0 w' b x cells st (R ++ [r]) O := by
  have h' := h.fr0 hf
  have hb := h.blk.lt
  have hx := h.mkr.lt
  refine ⟨h'.blk, h'.mkr, fun q hq => ?_, List.pairwise_append.2 ⟨h.ap, by simp, fun q hq q' hq' g hg e => ?_⟩, h'.fr, h.geb, h.gex, h.ne, h'.oth⟩
  · rcases List.mem_append.1 hq with hq | hq
    · exact h'.rows q hq
    · obtain rfl : q = r := by simpa using hq
      exact ⟨hr, fun e => by have := hn _ e; omega, fun e => by have := hn _ e; omega, fun g hg e => by have := hn _ hg; have := (h.oth g e).1; omega⟩
  · obtain rfl : q' = r := by simpa using hq'
    have := hn _ e
    have := (h.rows q hq).1.lt hg
    omega
/-- new rows, several at once -/
theorem SP.adds (h : SP T w0 w b x cells st R O) {Q : List Rw} (hQ : ∀ r ∈ Q, OR w0 w' r ∧ ∀ g, r.v.ownBlock = some g → w.heap.size ≤ g) (hap : Q.Pairwise apR) (hf : Fr no w w') : SP T w0 w' b x cells st (R ++ Q) O := by
  have h' := h.fr0 hf
  have hb := h.blk.lt
  have hx := h.mkr.lt
  refine ⟨h'.blk, h'.mkr, fun q hq => ?_, List.pairwise_append.2 ⟨h.ap, hap, fun q hq q' hq' g hg e => ?_⟩, h'.fr, h.geb, h.gex, h.ne, h'.oth⟩
  · rcases List.mem_append.1 hq with hq | hq
    · exact h'.rows q hq
    · obtain ⟨hr, hn⟩ := hQ q hq
      exact ⟨hr, fun e => by have := hn _ e; omega, fun e => by have := hn _ e; omega, fun g hg e => by have := hn _ hg; have := (h.oth g e).1; omega⟩
  · have := (hQ q' hq').2 _ e
    have := (h.rows q hq).1.lt hg
    omega
theorem SP.addB (h : SP T w0 w b x cells st R O) {q : Nat} {xs : List Int8} (hR : R8 w' q xs) (hq : w.heap.size ≤ q) (hf : Fr no w w') (hl : xs.length ≤ 1000000000) : SP T w0 w' b x cells st (R ++ [rowB q xs]) O :=
  h.adds (Q := [rowB q xs]) (fun r hr => by
    obtain rfl : r = rowB q xs := by simpa using hr
    exact ⟨OR.of hR (Nat.le_trans h.fr.size hq) hl, fun g hg => by
      have e : some q = some g := hg
      cases e; exact hq⟩) (by simp) hf
theorem SP.nil (h : SP T w0 w b x cells st R O) : SP T w0 w b x cells st (R ++ []) O := by rw [List.append_nil]; exact h
theorem gain_len (n : Nat) : (gainF n).length = n := by simp [gainF]
/-- another row grows -/
theorem SP.grow (h : SP T w0 w b x cells st R O) {bv bv' : Value} {O' : Nat → Prop} (hO : ∀ c, bv.ownBlock = some c → O c ∧ w0.heap.size ≤ c) (hf : Fr (fun c => bv.ownBlock = some c) w w') (hn : NB w bv bv') (hlt : ∀ c, bv'.ownBlock = some c → c < w'.heap.size)
    (hO' : ∀ c, O' c → O c ∨ bv'.ownBlock = some c) : SP T w0 w' b x cells st R O' := by
  have hb := h.blk.lt
  have hx := h.mkr.lt
  refine ⟨h.blk.fr hf (fun e => (h.oth b (hO b e).1).2.1 rfl), h.mkr.fr hf (fun e => (h.oth x (hO x e).1).2.2 rfl), fun r hr => have y := h.rows r hr; ⟨y.1.fr hf (fun g hg e => y.2.2.2 g hg (hO g e).1), y.2.1, y.2.2.1, fun g hg e => ?_⟩, h.ap, h.fr.trans hf fun c hc e => by have := (hO c e).2; omega, h.geb, h.gex, h.ne, fun c hc => ?_⟩
  · rcases hO' g e with z | z
    · exact y.2.2.2 g hg z
    · rcases hn g z with z | z
      · exact y.2.2.2 g hg (hO g z).1
      · have := y.1.lt hg; omega
  · rcases hO' c hc with z | z
    · have z := h.oth c z
      exact ⟨Nat.lt_of_lt_of_le z.1 hf.size, z.2⟩
    · refine ⟨hlt c z, ?_⟩
      rcases hn c z with z | z
      · exact (h.oth c (hO c z).1).2
      · exact ⟨by omega, by omega⟩
/-- the generator's next row -/
theorem SP.row (h : SP T w0 w b x cells st R O) {q : Nat} {xs : List Int8} (hR : R8 w' q xs) (hq : w.heap.size ≤ q) (hm : Mk w' x st') (hf : Fr (fun c => c = x) w w') (hl : xs.length ≤ 1000000000) : SP T w0 w' b x cells st' (R ++ [rowB q xs]) O := by
  have hb := h.blk.lt
  have hx := h.mkr.lt
  refine ⟨h.blk.fr hf h.ne, hm, fun r hr => ?_, List.pairwise_append.2 ⟨h.ap, by simp, fun r hr q' hq' g hg e => ?_⟩, h.fr.trans hf fun c hc e => by have : c = x := e; have := h.gex; omega, h.geb, h.gex, h.ne, fun c hc => have z := h.oth c hc; ⟨Nat.lt_of_lt_of_le z.1 hf.size, z.2⟩⟩
  · rcases List.mem_append.1 hr with hr | hr
    · have z := h.rows r hr
      exact ⟨z.1.fr hf (fun g hg e => z.2.2.1 (by rw [hg, e])), z.2⟩
    · obtain rfl : r = rowB q xs := by simpa using hr
      have hs := h.fr.size
      refine ⟨OR.of hR (by omega) hl, fun e => ?_, fun e => ?_, fun g hg e => ?_⟩
      · have e : some q = some b := e
        cases e; omega
      · have e : some q = some x := e
        cases e; omega
      · have e2 : some q = some g := hg
        cases e2
        have := (h.oth q e).1; omega
  · obtain rfl : q' = rowB q xs := by simpa using hq'
    have e2 : some q = some g := e
    cases e2
    have := (h.rows r hr).1.lt hg
    omega
end

/-! ### what Sample makes -/
def txtF (i : Nat) : List UInt8 := if i = 0 then [] else if i < 256 then [UInt8.ofNat ((96 + i) % 256)] else [97, UInt8.ofNat ((97 + i - 256) % 256)]
def txts (n : Nat) : List (List UInt8) := (List.range n).map txtF
def mrgs : Nat → List Mrg
  | 0 => []
  | n + 1 => mrgs n ++ (if 256 ≤ n ∧ n ≤ 510 then [(1, (n : Int) - 255, (n : Int))] else [])
theorem txts_len (n : Nat) : (txts n).length = n := by simp [txts]
theorem txts_succ (n : Nat) : txts (n + 1) = txts n ++ [txtF n] := by unfold txts; rw [List.range_succ, List.map_append]; rfl
theorem mrgs_len : ∀ n, (mrgs n).length ≤ n
  | 0 => Nat.le_refl _
  | n + 1 => by
    have := mrgs_len n
    unfold mrgs
    rw [List.length_append]
    split
    · simp only [List.length_cons, List.length_nil]; omega
    · simp only [List.length_nil]; omega
def seed64 (n : Int) : Nat := (n % 18446744073709551616).toNat
/-- a block off the generator -/
def blkF (d h st : Nat) : Bk (List Int8) :=
  ⟨gainF d, rowQ (d * d) st, rowQ (d * d) (lcgN (d * d) st), rowQ (d * d) (lcgN (d * d) (lcgN (d * d) st)), rowQ (d * d) (lcgN (d * d) (lcgN (d * d) (lcgN (d * d) st))), gainF d,
    7 + levQ d, 7 + levQ d, 7 + levQ d, 4 + levQ d, 3,
    rowQ (h * d) (lcgN (d * d) (lcgN (d * d) (lcgN (d * d) (lcgN (d * d) st)))), rowQ (h * d) (lcgN (h * d) (lcgN (d * d) (lcgN (d * d) (lcgN (d * d) (lcgN (d * d) st))))), rowQ (d * h) (lcgN (h * d) (lcgN (h * d) (lcgN (d * d) (lcgN (d * d) (lcgN (d * d) (lcgN (d * d) st)))))),
    7 + levQ d, 7 + levQ d, 4 + levQ h⟩
def blkS (d h st : Nat) : Nat := lcgN (d * h) (lcgN (h * d) (lcgN (h * d) (lcgN (d * d) (lcgN (d * d) (lcgN (d * d) (lcgN (d * d) st))))))
def layS (d h : Nat) : Nat → Nat → Nat
  | 0, st => st
  | l + 1, st => blkS d h (layS d h l st)
def layF (d h l st : Nat) : List (Bk (List Int8)) := (List.range l).map fun j => blkF d h (layS d h j st)
theorem layF_succ (d h l st : Nat) : layF d h (l + 1) st = layF d h l st ++ [blkF d h (layS d h l st)] := by unfold layF; rw [List.range_succ, List.map_append]; rfl
def sampleP (s : Shp) (seed : Int) : Md :=
  let d := s.dim.toNat
  let h := s.hid.toNat
  let n := s.voc.toNat
  let st := lcgN (n * d) (seed64 seed)
  ⟨s, ⟨txts n, mrgs n⟩, rowQ (n * d) (seed64 seed), 2, cosF s.ctx.toNat (halfS s).toNat, sinF s.ctx.toNat (halfS s).toNat, layF d h s.lay.toNat st, BEND, gainF d, rowQ (n * d) (layS d h s.lay.toNat st), 4 + levQ d⟩
theorem seed64_lt (n : Int) : seed64 n < 18446744073709551616 := by unfold seed64; omega
theorem layS_lt {d h st : Nat} (hs : st < 18446744073709551616) : ∀ l, layS d h l st < 18446744073709551616
  | 0 => hs
  | l + 1 => lcgN_lt (lcgN_lt (lcgN_lt (lcgN_lt (lcgN_lt (lcgN_lt (lcgN_lt (layS_lt hs l) _) _) _) _) _) _) _
/-- a model of one's own: TM, TB: what its merges and blocks are -/
structure OwnM (TM TB : TypeId) (w0 w : World) (m : LM) : Prop where
  rows : ∀ r ∈ m.all, OR w0 w r
  ap : m.all.Pairwise apR
  txt : Own w 9 1 (.slice m.tA m.V.texts.length m.tc) m.V.texts.length (m.V.texts.map sv)
  mrg : Own w TM 3 (.slice m.mA m.V.merges.length m.mc) m.V.merges.length (mcs m.V.merges)
  blk : Own w TB 17 (.slice m.bA m.bs.length m.bc) m.bs.length (m.bs.flatMap bkC)
  ge : ∀ g, (Value.slice m.tA m.V.texts.length m.tc).ownBlock = some g ∨ (Value.slice m.mA m.V.merges.length m.mc).ownBlock = some g ∨ (Value.slice m.bA m.bs.length m.bc).ownBlock = some g → w0.heap.size ≤ g ∧ ∀ r ∈ m.all, r.v.ownBlock ≠ some g
  tm : ∀ g, (Value.slice m.tA m.V.texts.length m.tc).ownBlock = some g → (Value.slice m.mA m.V.merges.length m.mc).ownBlock ≠ some g ∧ (Value.slice m.bA m.bs.length m.bc).ownBlock ≠ some g
  mb : ∀ g, (Value.slice m.mA m.V.merges.length m.mc).ownBlock = some g → (Value.slice m.bA m.bs.length m.bc).ownBlock ≠ some g
  fr : Fr no w0 w
theorem own_cs {w : World} {e sz n c : Nat} {A : Option Addr} {xs : List Value} (h : Own w e sz (.slice A n c) n xs) : Cs w A xs := by
  obtain ⟨A', c', e, h1, _⟩ := h.slice
  injection e with e1 e2 e3
  rw [e1]; exact h1
theorem OwnM.At {TM TB : TypeId} {w0 w : World} {m : LM} (h : OwnM TM TB w0 w m) : m.At w :=
  ⟨⟨own_cs h.txt, own_cs h.mrg⟩, fun r hr => (h.rows r (by
    simp only [List.mem_cons, List.not_mem_nil, or_false] at hr
    simp only [LM.all, List.mem_append, List.mem_cons, List.not_mem_nil, or_false]
    rcases hr with z | z | z | z | z | z <;> simp [z])).At, own_cs h.blk, fun b hb r hr => (h.rows r (List.mem_append.2 (.inl (List.mem_append.2 (.inr (List.mem_flatMap.2 ⟨b, hb, hr⟩)))))).At⟩
theorem OwnM.fr0 {TM TB : TypeId} {w0 w w' : World} {m : LM} (h : OwnM TM TB w0 w m) (hf : Fr no w w') : OwnM TM TB w0 w' m :=
  ⟨fun r hr => (h.rows r hr).fr0 hf, h.ap, h.txt.fr0 hf, h.mrg.fr0 hf, h.blk.fr0 hf, h.ge, h.tm, h.mb, h.fr.tr hf⟩
end Go.Wk.YtfgllkflnkolhaaDoor
