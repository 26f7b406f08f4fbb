/-
  Chapter 16: vec.Sizes (a range over slices.Chunk).
-/
import Derived.Test.YtfgllkflnkolhaaDoorShI
import Derived.RangeFuncNested
import Derived.RangeFuncBound
import Derived.RangeFuncCalls
import Derived.RangeFuncLeaves
import Derived.RangeFuncBox
import Derived.Shelf.Abstract
import Derived.Shelf.RegionOpen
import Derived.OwnWalkIn
import Derived.TacticsInMore
import Derived.LoopNIn
import Derived.LoopIn
import Derived.Maps.AppendAt
set_option linter.unusedVariables false
namespace Go.Wk.YtfgllkflnkolhaaDoor
open Go Go.Wk Go.Proofs

def matK (len : Nat) (n : Int) : Int := if 1048576 < len then 81 else if n < 1 then 80 else if (len : Int) % n = 0 then 0 else 80
set_option maxHeartbeats 1000000 in
theorem wMatrix (A : Option Addr) (len cap : Nat) (n : Int) (w : World) (hl : len ≤ 4611686018427387904) (hn : okI n) :
    CallsF Tryd.prog 107 [.slice A len cap, i64 n] w fun r w' => r = i64 (matK len n) ∧ Fr no w w' := by
  unfold matK
  refine callsF Tryd.func107 rfl rfl (by decide) rfl ?_
  refine sC [] rfl ?_; refine sC [] rfl ?_; refine sC [] rfl ?_; refine sD [] rfl ?_
  refine ev_condD rfl (fun c => ?_) (fun c => ?_)
  · refine sA [] rfl ?_
    rw [if_pos (by omega)]
    exact ret1 (.inr rfl) rfl rfl ⟨rfl, Fr.refl _ _⟩
  · refine sC [] rfl ?_; refine sD [] rfl ?_
    rw [if_neg (by omega)]
    refine ev_guardD rfl rfl (fun c2 => ?_) (fun c2 => ?_)
    · refine sA [] rfl ?_
      rw [if_pos c2]
      exact ret1 (.inr rfl) rfl rfl ⟨rfl, Fr.refl _ _⟩
    · refine sA [] rfl ?_; refine ev_rem rfl rfl rfl rfl (by omega) (by omega) ?_; refine sC [] rfl ?_
      rw [if_neg c2]
      refine ev_condD rfl (fun c3 => ?_) (fun c3 => ?_)
      · refine sA [] rfl ?_
        rw [if_neg c3]
        exact ret1 (.inr rfl) rfl rfl ⟨rfl, Fr.refl _ _⟩
      · refine sA [] rfl ?_
        rw [if_pos (by omega)]
        exact ret1 (.inr rfl) rfl rfl ⟨rfl, Fr.refl _ _⟩
set_option maxHeartbeats 1000000 in
theorem wChunk (A : Option Addr) (len cap : Nat) (n : Int) (w : World) (hn : okI n) (h1 : 1 ≤ n) :
    CallsF Tryd.prog 108 [.slice A len cap, i64 n] w fun r w' => ∃ b c, r = .func (.func 113) #[] #[.pointer (some ⟨b, 0, none⟩), .pointer (some ⟨c, 0, none⟩)] ∧ w.heap.size ≤ b ∧ w.heap.size ≤ c ∧
      Blk w' b [.slice A len cap] 40 ∧ Blk w' c [i64 n] 3 ∧ Fr no w w' := by
  refine callsF Tryd.func108 rfl rfl (by decide) rfl ?_
  refine sA [] rfl ?_
  refine ev_box rfl rfl rfl fun b w1 hb kb f1 => ?_
  refine ev_box rfl rfl rfl fun c w2 hc kc f2 => ?_
  have kb2 := kb.fr0 f2
  have hcc : w2.cell? ⟨c, 0, none⟩ = some (i64 n) := Blk.cell (cs := [i64 n]) kc rfl
  have h12 := f1.size
  refine sA [] rfl ?_; refine ev_load rfl rfl tabOk rfl rfl ‹_› ?_; refine sD [] rfl ?_; refine sD [] rfl ?_
  rw [show decide (n < 1) = false from decide_eq_false (by omega)]
  refine sA [] rfl ?_
  refine ev_y rfl rfl (v := .func (.func 113) #[] #[.pointer (some ⟨b, 0, none⟩), .pointer (some ⟨c, 0, none⟩)]) (fun a hA w' e => by
    simp only [execOp, hA.ev (show ev _ (.tmp 2) = some _ from rfl), hA.ev (show ev _ (.tmp 3) = some _ from rfl), List.map_toArray, List.map_cons, List.map_nil]; rfl) ?_
  refine sA [] rfl ?_
  exact ret1 (.inr rfl) rfl rfl ⟨b, c, rfl, hb, by omega, kb2, kc, f1.tr f2⟩
end Go.Wk.YtfgllkflnkolhaaDoor
