/-
  Chapter 16: more (what a row of blocks may add).
-/
import Derived.Test.YtfgllkflnkolhaaDoorShL
set_option linter.unusedVariables false
namespace Go.Wk.YtfgllkflnkolhaaDoor
open Go Go.Wk Go.Proofs

/-- the greatest of the rounded sizes -/
def moreQ (xs : List Int8) (n s : Nat) : Nat → Int
  | 0 => 0
  | q + 1 => if moreQ xs n s q < roundQ (127 * partQ xs (q * n) n) s then roundQ (127 * partQ xs (q * n) n) s else moreQ xs n s q
theorem roundQ_bd {x : Int} (s : Nat) (h : 0 ≤ x) : 0 ≤ roundQ x s ∧ roundQ x s ≤ x + 1 := (nearQ_bd (x := x) (d := 2 ^ s) (by have := Int.pow_pos (n := 2) (m := s) (by omega); omega)).1 h
theorem moreQ_bd (xs : List Int8) {n s : Nat} (hn : n ≤ 1048577) : ∀ q, 0 ≤ moreQ xs n s q ∧ moreQ xs n s q ≤ 127 * 128 * (n : Int) + 1
  | 0 => by simp [moreQ]; omega
  | q + 1 => by
    have h1 := moreQ_bd xs (s := s) hn q
    have h2 := partQ_bd xs (q * n) n
    have h3 := roundQ_bd (x := 127 * partQ xs (q * n) n) s (by omega)
    simp only [moreQ]; split <;> omega
set_option maxHeartbeats 1000000 in
theorem wMore (A : Option Addr) (xs : List Int8) (cap n q s : Nat) (w : World) (hA : Cs w A (xs.map i8v)) (h1 : 1 ≤ n) (hxs : xs.length = q * n) (hlen : q * n ≤ 1048576) (hcap : xs.length ≤ cap) (hno : n ≤ 1048577) (hs : s ≤ 32) :
    CallsF Tryd.prog 71 [.slice A xs.length cap, i64 n, i64 s] w fun r w' => r = i64 (moreQ xs n s q) ∧ Fr no w w' := by
  have hq1 : q ≤ q * n := Nat.le_mul_of_pos_right q h1
  refine callsF Tryd.func71 rfl rfl (by decide) rfl ?_
  refine sA [] rfl ?_
  refine ev_call rfl rfl rfl (wSizes A xs cap n q w hA h1 hxs hlen hcap hno) ?_
  rintro r w1 ⟨B, c, rfl, hB, hc, f1⟩
  refine sA [] rfl ?_
  refine ev_loop (α := Nat) (fun y => [(2, i64 s), (20, .slice B q c), (21, i64 q), (9, i64 (moreQ xs n s y)), (22, i64 y)]) (fun y w' => y ≤ q ∧ Fr no w w' ∧ Cs w' B ((List.range q).map (szV xs n))) (fun y => q - y) 0 ⟨rfl, rfl, rfl, rfl, rfl, trivial⟩ ⟨Nat.zero_le _, f1, hB⟩ ?_
  clear hB f1
  rintro i w2 ⟨hi, f2, hB⟩
  refine sC [] rfl ?_; refine sD [] rfl ?_
  refine ev_condD rfl (fun c => ?_) (fun c => ?_)
  · have hlt : i < q := by omega
    have hb1 := moreQ_bd xs (s := s) hno i
    have hb2 := partQ_bd xs (i * n) n
    obtain ⟨g, o, rfl, hcell⟩ := hB i (szV xs n i) (by simp [hlt])
    refine sA [] rfl ?_
    refine ev_indexAddr rfl rfl tabOk rfl rfl rfl (by omega) (by omega) ?_
    rw [show o + (i : Int).toNat * 1 = o + i by omega]
    refine ev_load rfl rfl tabOk rfl rfl hcell ?_
    refine sA [] rfl ?_; refine ev_arith rfl rfl rfl rfl rfl (by simp only [lowK, hiK]; omega) ?_; refine sA [] rfl ?_
    refine ev_call rfl rfl rfl (wRound (127 * partQ xs (i * n) n) s w2 (by constructor <;> omega) (by omega)) ?_
    rintro r w3 ⟨rfl, f3⟩
    refine sA [] rfl ?_; refine ev_arith rfl rfl rfl rfl rfl (by simp only [lowK, hiK]; omega) ?_; refine sA [] rfl ?_
    refine ev_next (i + 1) (by omega) ⟨by omega, f2.tr f3, hB.fr0 f3⟩ ⟨rfl, rfl, rfl, rfl, by rw [show ((i + 1 : Nat) : Int) = (i : Int) + 1 by omega]; rfl, trivial⟩
  · obtain rfl : i = q := by omega
    refine sA [] rfl ?_
    exact ret1 (.inr rfl) rfl rfl ⟨rfl, f2⟩
end Go.Wk.YtfgllkflnkolhaaDoor
