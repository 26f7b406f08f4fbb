/-
  The walk kit of this repo, part 12: arguments opened: shapes, what memory holds for them, what is read of them.
-/
import Derived.Test.YtdelgnflcfhhkaaGreatDoorEvs
import Derived.Deep.Slices
set_option linter.unusedVariables false
set_option linter.unusedSimpArgs false
namespace Go.Wk
open Go Go.ChangeShapes Go.WideShapes

inductive Sh where
  | int (k : IntKind) | i8 | u8 | str | bool | sl (e : Sh) | st (r : Sh) | un | pr (a r : Sh)
def Sh.D : Sh → Type
  | .int _ => Int | .i8 => Int8 | .u8 => UInt8 | .str => List UInt8 | .bool => Bool | .sl e => List e.D | .st r => r.D | .un => Unit | .pr a r => a.D × r.D
def Sh.sz : Sh → Nat
  | .st r => r.sz | .un => 0 | .pr a r => a.sz + r.sz | _ => 1
def Sh.row : Sh → Bool
  | .un => true | .pr _ _ => true | _ => false
/-- the shape is this type's -/
def fit (P : Program) : Sh → TypeId → List Field → Nat → Bool
  | .int k, t, _, _ => match P.underlying t with | some (.int k') => decide (k' = k) | _ => false
  | .i8, t, _, _ => match P.underlying t with | some (.int k') => decide (k' = .i8) | _ => false
  | .u8, t, _, _ => match P.underlying t with | some (.int k') => decide (k' = .u8) | _ => false
  | .str, t, _, _ => match P.underlying t with | some .string => true | _ => false
  | .bool, t, _, _ => match P.underlying t with | some .bool => true | _ => false
  | .sl e, t, _, _ => match P.underlying t with | some (.slice u) => !e.row && fit P e u [] 0 && decide (P.cellsOf u = e.sz) && decide (0 < e.sz) | _ => false
  | .st r, t, _, _ => match P.underlying t with | some (.struct fs) => r.row && fit P r 0 fs.toList 0 && decide (P.cellsOf t = r.sz) | _ => false
  | .un, _, fs, _ => match fs with | [] => true | _ => false
  | .pr a r, _, fs, o => match fs with | f :: fs => !a.row && r.row && fit P a f.type [] 0 && decide (f.offset = o) && decide (P.cellsOf f.type = a.sz) && fit P r 0 fs (o + a.sz) | [] => false
/-- these cells, in this world, hold this -/
def See (w : World) : (s : Sh) → List Value → s.D → Prop
  | .int k, cs, (n : Int) => cs = [.int k n] ∧ (Lit.int k n).wf = true
  | .i8, cs, (n : Int8) => cs = [.int .i8 n.toInt]
  | .u8, cs, (n : UInt8) => cs = [bv n]
  | .str, cs, (s : List UInt8) => cs = [.string (sOf s)]
  | .bool, cs, (b : Bool) => cs = [.bool b]
  | .sl e, cs, (l : List e.D) => ∃ A cap, cs = [.slice A l.length cap] ∧ l.length ≤ cap ∧ cap ≤ maxLen ∧ ∀ (i : Nat) (x : e.D), l[i]? = some x → ∃ b o xs, A = some ⟨b, o, none⟩ ∧ xs.length = e.sz ∧ (∀ j u, xs[j]? = some u → w.cell? ⟨b, o + i * e.sz + j, none⟩ = some u) ∧ See w e xs x
  | .st r, cs, x => See w r cs x
  | .un, cs, _ => cs = []
  | .pr a r, cs, (x, y) => ∃ u v, cs = u ++ v ∧ See w a u x ∧ See w r v y
/-- these data are what is read of this -/
def Dt {H : Type} : (s : Sh) → s.D → List (DataW H) → Prop
  | .int k, (n : Int), ds => ds = [.lit (.int k n)]
  | .i8, (n : Int8), ds => ds = [.lit (.int .i8 n.toInt)]
  | .u8, (n : UInt8), ds => ds = [.lit (.int .u8 (n.toNat : Int))]
  | .str, (s : List UInt8), ds => ds = [.lit (.string s)]
  | .bool, (b : Bool), ds => ds = [.lit (.bool b)]
  | .sl e, (l : List e.D), ds => (l = [] ∧ ds = [.nil]) ∨ ∃ (es sp : List (DataW H)), ds = [.slice es sp] ∧ es.length = l.length ∧ ∀ (i : Nat) (x : e.D) (d : DataW H), l[i]? = some x → es[i]? = some d → Dt e x [d]
  | .st r, x, ds => ∃ ps, ds = [.agg ps] ∧ Dt r x ps
  | .un, _, ds => ds = []
  | .pr a r, (x, y), ds => ∃ u v, ds = [u] ++ v ∧ Dt a x [u] ∧ Dt r y v

theorem wf_i8 {n : Int} (h : (Lit.int .i8 n).wf = true) : ∃ x : Int8, n = x.toInt := by
  simp only [Lit.wf, Bool.and_eq_true, decide_eq_true_eq] at h
  have h1 : (-128 : Int) ≤ n := h.1
  have h2 : n ≤ 127 := h.2
  exact ⟨Int8.ofInt n, (Int8.toInt_ofInt_of_le h1 (by omega)).symm⟩
theorem wf_u8 {n : Int} (h : (Lit.int .u8 n).wf = true) : ∃ x : UInt8, n = (x.toNat : Int) := by
  simp only [Lit.wf, Bool.and_eq_true, decide_eq_true_eq] at h
  have h1 : (0 : Int) ≤ n := h.1
  have h2 : n ≤ 255 := h.2
  refine ⟨UInt8.ofNat n.toNat, ?_⟩
  simp only [UInt8.toNat_ofNat']
  omega
theorem spot_none {w : World} {a : Addr} {v : Value} (h : w.cell? a = some v) : a.spot = none := by
  unfold World.cell? at h
  split at h
  · split at h
    · cases h
    · rename_i hs; simpa using hs
  · cases h
theorem add_at (a : Addr) (h : a.spot = none) (m : Nat) : a.add m = ⟨a.block, a.off + m, none⟩ := by
  unfold Addr.add
  split
  · rename_i e; subst e; cases a; simp_all
  · rfl

section
variable {H : Type} {enc : TypeId × Value → H} {P : Program} {w : World} {base : Nat} {spare : Nat → Bool} {held : Bool}
def OpenOne (enc : TypeId × Value → H) (P : Program) (w : World) (base : Nat) (spare : Nat → Bool) (held : Bool) (s : Sh) : Prop :=
  ∀ (fuel : Nat) (t : TypeId) (cs : List Value) (x : DataW H × List MemPlace), s.row = false → fit P s t [] 0 = true → DataW.trod enc P w base spare held fuel t cs = some x → ∃ d, See w s cs d ∧ Dt s d [x.1]
def OpenRow (enc : TypeId × Value → H) (P : Program) (w : World) (base : Nat) (spare : Nat → Bool) (held : Bool) (s : Sh) : Prop :=
  ∀ (n : Nat) (fs : List Field) (o : Nat) (cs : List Value) (xs : List (DataW H × List MemPlace)), s.row = true → fit P s 0 fs o = true → xs.length = fs.length →
    (∀ (i : Nat) (f : Field), fs[i]? = some f → DataW.trod enc P w base spare held n f.type ((cs.drop f.offset).take (P.cellsOf f.type)) = xs[i]?) → ∃ d, See w s ((cs.drop o).take s.sz) d ∧ Dt s d (xs.map (·.1))

theorem open_all : ∀ s : Sh, OpenOne enc P w base spare held s ∧ OpenRow enc P w base spare held s := by
  intro s
  induction s with
  | int k =>
    refine ⟨fun fuel t cs x _ hf h => ?_, fun n fs o cs xs hr => by cases hr⟩
    simp only [fit] at hf
    split at hf
    · rename_i k' hu
      have := of_decide_eq_true hf; subst this
      obtain ⟨m, rfl, rfl, hw⟩ := DataW.trod_int hu h
      exact ⟨m, ⟨rfl, hw⟩, rfl⟩
    · cases hf
  | i8 =>
    refine ⟨fun fuel t cs x _ hf h => ?_, fun n fs o cs xs hr => by cases hr⟩
    simp only [fit] at hf
    split at hf
    · rename_i k' hu
      have := of_decide_eq_true hf; subst this
      obtain ⟨m, rfl, rfl, hw⟩ := DataW.trod_int hu h
      obtain ⟨y, rfl⟩ := wf_i8 hw
      exact ⟨y, rfl, rfl⟩
    · cases hf
  | u8 =>
    refine ⟨fun fuel t cs x _ hf h => ?_, fun n fs o cs xs hr => by cases hr⟩
    simp only [fit] at hf
    split at hf
    · rename_i k' hu
      have := of_decide_eq_true hf; subst this
      obtain ⟨m, rfl, rfl, hw⟩ := DataW.trod_int hu h
      obtain ⟨y, rfl⟩ := wf_u8 hw
      exact ⟨y, rfl, rfl⟩
    · cases hf
  | str =>
    refine ⟨fun fuel t cs x _ hf h => ?_, fun n fs o cs xs hr => by cases hr⟩
    simp only [fit] at hf
    split at hf
    · rename_i hu
      obtain ⟨m, rfl, rfl, hw⟩ := DataW.trod_string hu h
      obtain ⟨y, rfl⟩ := sOf_ex m
      exact ⟨y, rfl, by simp [Dt, sOf]⟩
    · cases hf
  | bool =>
    refine ⟨fun fuel t cs x _ hf h => ?_, fun n fs o cs xs hr => by cases hr⟩
    simp only [fit] at hf
    split at hf
    · rename_i hu
      obtain ⟨m, rfl, rfl⟩ := DataW.trod_bool hu h
      exact ⟨m, rfl, rfl⟩
    · cases hf
  | sl e ih =>
    refine ⟨fun fuel t cs x _ hf h => ?_, fun n fs o cs xs hr => by cases hr⟩
    simp only [fit] at hf
    split at hf
    · rename_i u hu
      simp only [Bool.and_eq_true, Bool.not_eq_true', decide_eq_true_eq] at hf
      obtain ⟨⟨⟨hr, hfe⟩, hc⟩, hpos⟩ := hf
      rcases Go.Deep.open_slice hu h with ⟨rfl, rfl⟩ | ⟨a, len, cap, m, n, D, Pl, rfl, hb, hl, hm, hmm, rfl, hx⟩
      · exact ⟨[], ⟨none, 0, rfl, Nat.le_refl _, Nat.zero_le _, fun i x hx => by simp at hx⟩, .inl ⟨rfl, rfl⟩⟩
      have hlm : len ≤ m := by rw [hmm]; split <;> omega
      have each : ∀ i : Nat, i < len → ∃ d : e.D, (∃ xs, xs.length = e.sz ∧ (∀ j u, xs[j]? = some u → w.cell? (a.add (i * e.sz + j)) = some u) ∧ See w e xs d) ∧ Dt e d [D i] := by
        intro i hi
        obtain ⟨cs', h1, h2⟩ := hx i (by omega)
        obtain ⟨d, hd1, hd2⟩ := ih.1 _ _ _ _ hr hfe h2
        rw [hc] at h1
        obtain ⟨_, hlen, hcell⟩ := World.cells?_some h1
        refine ⟨d, ⟨cs', hlen, fun j u' hj => ?_, hd1⟩, hd2⟩
        have hjl : j < e.sz := by rw [← hlen]; exact (List.getElem?_eq_some_iff.1 hj).1
        have := hcell j hjl
        rw [Go.Deep.add_add] at this
        rw [this, hj]
      have hch : ∃ l : List e.D, l.length = len ∧ ∀ i d, l[i]? = some d → (∃ xs, xs.length = e.sz ∧ (∀ j u, xs[j]? = some u → w.cell? (a.add (i * e.sz + j)) = some u) ∧ See w e xs d) ∧ Dt e d [D i] := by
        have : ∀ m, m ≤ len → ∃ l : List e.D, l.length = m ∧ ∀ i d, l[i]? = some d → (∃ xs, xs.length = e.sz ∧ (∀ j u, xs[j]? = some u → w.cell? (a.add (i * e.sz + j)) = some u) ∧ See w e xs d) ∧ Dt e d [D i] := by
          intro m
          induction m with
          | zero => exact fun _ => ⟨[], rfl, fun i d h => by simp at h⟩
          | succ m ihm =>
            intro hm'
            obtain ⟨l, hll, hl2⟩ := ihm (by omega)
            obtain ⟨d, hd⟩ := each m (by omega)
            refine ⟨l ++ [d], by simp [hll], fun i d' h' => ?_⟩
            rcases Nat.lt_or_ge i l.length with hi | hi
            · rw [List.getElem?_append_left hi] at h'; exact hl2 i d' h'
            · rw [List.getElem?_append_right hi] at h'
              have : i = l.length := by
                have := (List.getElem?_eq_some_iff.1 h').1
                simp at this; omega
              subst this
              simp at h'
              subst h'
              rw [hll]; exact hd
        exact this len (Nat.le_refl _)
      obtain ⟨l, hll, hl2⟩ := hch
      refine ⟨l, ⟨some a, cap, by rw [hll], by omega, hm, fun i d hd => ?_⟩, .inr ⟨(List.range len).map D, _, rfl, by simp [hll], fun i d d' hd hd' => ?_⟩⟩
      · obtain ⟨⟨xs, h1, h2, h3⟩, _⟩ := hl2 i d hd
        have hi : i < l.length := (List.getElem?_eq_some_iff.1 hd).1
        have hsp : a.spot = none := by
          have h0 : 0 < l.length := by omega
          obtain ⟨⟨ys, g1, g2, _⟩, _⟩ := hl2 0 l[0] (List.getElem?_eq_getElem h0)
          have hy : ys[0]? = some (ys[0]'(by omega)) := List.getElem?_eq_getElem (by omega)
          have := spot_none (g2 0 _ hy)
          simpa [Addr.add] using this
        refine ⟨a.block, a.off, xs, by cases a; simp_all, h1, fun j u' hj => ?_, h3⟩
        have := h2 j u' hj
        rw [add_at a hsp] at this
        rw [Nat.add_assoc]
        exact this
      · have hi : i < l.length := (List.getElem?_eq_some_iff.1 hd).1
        have := (hl2 i d hd).2
        rw [List.getElem?_map, List.getElem?_range (by omega)] at hd'
        simp at hd'
        subst hd'
        exact this
    · cases hf
  | st r ih =>
    refine ⟨fun fuel t cs x _ hf h => ?_, fun n fs o cs xs hr => by cases hr⟩
    simp only [fit] at hf
    split at hf
    · rename_i fs hu
      simp only [Bool.and_eq_true, decide_eq_true_eq] at hf
      obtain ⟨⟨hr, hff⟩, hc⟩ := hf
      obtain ⟨xs, n, _, rfl, hlen, hxl, hx⟩ := DataW.trod_struct hu h
      obtain ⟨d, h1, h2⟩ := ih.2 n fs.toList 0 cs xs hr hff (by simpa using hxl) (fun i f hi => hx i f (by simpa using hi))
      rw [List.drop_zero, List.take_of_length_le (by omega)] at h1
      exact ⟨d, h1, _, rfl, h2⟩
    · cases hf
  | un =>
    refine ⟨fun fuel t cs x hr => (by cases hr), fun n fs o cs xs _ hf hl hx => ?_⟩
    simp only [fit] at hf
    split at hf
    · have : xs = [] := by simpa using hl
      subst this
      exact ⟨(), by simp [See, Sh.sz], rfl⟩
    · cases hf
  | pr a r iha ihr =>
    refine ⟨fun fuel t cs x hr => (by cases hr), fun n fs o cs xs _ hf hl hx => ?_⟩
    simp only [fit] at hf
    split at hf
    · rename_i f fs
      simp only [Bool.and_eq_true, Bool.not_eq_true', decide_eq_true_eq] at hf
      obtain ⟨⟨⟨⟨⟨hra, hrr⟩, hfa⟩, ho⟩, hc⟩, hfr⟩ := hf
      cases xs with
      | nil => simp at hl
      | cons x xs =>
        have h0 := hx 0 f rfl
        rw [ho, hc] at h0
        obtain ⟨d, h1, h2⟩ := iha.1 _ _ _ _ hra hfa (by simpa using h0)
        obtain ⟨d', h3, h4⟩ := ihr.2 n fs (o + a.sz) cs xs hrr hfr (by simpa using hl) (fun i f hi => by simpa using hx (i + 1) f (by simpa using hi))
        refine ⟨(d, d'), ⟨_, _, ?_, h1, h3⟩, x.1, xs.map (·.1), rfl, h2, h4⟩
        rw [Sh.sz, List.take_add, List.drop_drop]
    · cases hf
/-- an argument opened -/
theorem open_arg {s : Sh} {t : TypeId} {v : Value} {d : DataW H} {p : List MemPlace} (hr : s.row = false) (hf : fit P s t [] 0 = true) (h : DataW.Trod enc P w base spare held t v d p) : ∃ x, See w s v.cells.toList x ∧ Dt s x [d] := by
  obtain ⟨fuel, h⟩ := h
  exact (open_all s).1 fuel t _ _ hr hf h
/-- a struct that came as an argument -/
theorem arg_agg {r : Reach} {b0 : Nat} {t : TypeId} {fs : Array Field} {v : Value} (hu : P.underlying t = some (.struct fs)) (hval : Value.okWide P w r b0 t v) : ∃ l : List Value, v = .agg ⟨l⟩ ∧ v.cells.toList = l := by
  unfold Value.okWide at hval
  rw [hu] at hval
  obtain ⟨⟨l⟩, rfl, _⟩ := hval
  exact ⟨l, rfl, rfl⟩
end
/-- how much this is -/
def Sh.vol : (s : Sh) → s.D → Nat
  | .str, (s : List UInt8) => s.length + 1
  | .sl e, (l : List e.D) => (l.map e.vol).sum + 1
  | .st r, x => r.vol x + 1
  | .un, _ => 0
  | .pr a r, (x, y) => a.vol x + r.vol y
  | _, _ => 1
end Go.Wk
