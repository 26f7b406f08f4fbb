/-
  Chapter 16: the words of a model; its parts.
-/
import Derived.Test.YtfgllkflnkolhaaDoorShO
import Derived.Test.YtfgllkflnkolhaaDoorVoC
set_option linter.unusedVariables false
namespace Go.Wk.YtfgllkflnkolhaaDoor
open Go Go.Wk Go.Proofs

/-- where, and what is wrong -/
abbrev whV (r : Int × Int × Int) : Value := .tuple #[.agg ⟨[i64 r.1, i64 r.2.1]⟩, i64 r.2.2]
def wordsQ (s : Shp) (V : VV) : Int × Int × Int := if (V.chk.2 : Int) = 0 then if (V.texts.length : Int) = s.voc then (0, 0, 0) else (2, V.texts.length, 161) else (2, V.chk.1, V.chk.2)
set_option maxHeartbeats 4000000 in
theorem wWords (m : LM) (w : World) (hm : m.At w) (hS : VS m.V) :
    CallsF Tryd.prog 55 [lmV m] w fun r w' => r = whV (wordsQ m.s m.V) ∧ Fr no w w' := by
  unfold wordsQ
  refine callsF Tryd.func55 rfl rfl (by decide) rfl ?_
  refine sA [] rfl ?_
  refine ev_box rfl rfl rfl fun p w1 hp kp f1 => ?_
  refine ev_alloc rfl rfl inf63 (fun q w2 hq kq f2 => ?_)
  have kp2 := kp.fr0 f2
  have hf2 := f1.tr f2
  clear kp
  refine sA [] rfl ?_
  have hvo : Cs w2 (some ⟨p, 6, none⟩) [.slice m.tA m.V.texts.length m.tc, .slice m.mA m.V.merges.length m.mc] :=
    (Cs.of_blk kp2).part 6 fun j u hj => match j, hj with
      | 0, h => h | 1, h => h | n + 2, h => by simp at h
  refine ev_loadAgg rfl rfl tabOk rfl rfl rfl hvo ?_
  refine ev_call rfl rfl rfl (wCheck m.tA m.tc m.mA m.mc m.V w2 (hm.voc.fr0 hf2) hS) ?_
  rintro r w3 ⟨rfl, f3⟩
  have kp3 := kp2.fr0 f3
  have kq3 := kq.fr0 f3
  have hf3 := hf2.tr f3
  clear hvo kp2 kq
  refine sC [] rfl ?_; refine sC [] rfl ?_; refine sD [] rfl ?_; refine sD [] rfl ?_; refine sD [] rfl ?_
  refine ev_condD rfl (fun c => ?_) (fun c => ?_)
  · rw [if_neg c]
    refine sA [] rfl ?_
    refine ev_build rfl rfl (v := .agg ⟨[i64 2, i64 m.V.chk.1]⟩) rfl (fun w => by kernel_rfl) ?_
    refine sA [] rfl ?_
    refine ev_storeAgg tabOk rfl rfl rfl rfl rfl rfl kq3 rfl (fun w4 k4 f4 => ?_)
    refine sA [] rfl ?_
    exact retG tabOk (.inr rfl) rfl [.agg ⟨[i64 2, i64 m.V.chk.1]⟩, i64 m.V.chk.2] ⟨⟨_, rfl, .inl ⟨rfl, _, rfl, rfl, Cs.of_blk k4⟩⟩, rfl, trivial⟩ ⟨rfl, hf3.trans f4 fun z hz e => by have : z = q := e; have := f1.size; omega⟩
  · rw [if_pos (by omega)]
    refine sA [] rfl ?_; refine ev_loadB rfl rfl tabOk rfl rfl ‹_› (by rfl) ?_; refine sA [] rfl ?_; refine ev_loadB rfl rfl tabOk rfl rfl ‹_› (by rfl) ?_; refine sD [] rfl ?_; refine sD [] rfl ?_
    refine ev_condD rfl (fun c2 => ?_) (fun c2 => ?_)
    · rw [if_neg c2]
      refine sA [] rfl ?_
      refine ev_build rfl rfl (v := .agg ⟨[i64 2, i64 m.V.texts.length]⟩) rfl (fun w => by kernel_rfl) ?_
      skip
      refine ev_storeAgg tabOk rfl rfl rfl rfl rfl rfl kq3 rfl (fun w4 k4 f4 => ?_)
      refine sA [] rfl ?_
      exact retG tabOk (.inr rfl) rfl [.agg ⟨[i64 2, i64 m.V.texts.length]⟩, i64 161] ⟨⟨_, rfl, .inl ⟨rfl, _, rfl, rfl, Cs.of_blk k4⟩⟩, rfl, trivial⟩ ⟨rfl, hf3.trans f4 fun z hz e => by have : z = q := e; have := f1.size; omega⟩
    · rw [if_pos (by omega)]
      refine sA [] rfl ?_
      refine ev_build rfl rfl (v := .agg ⟨[i64 0, i64 0]⟩) rfl (fun w => by kernel_rfl) ?_
      skip
      refine ev_storeAgg tabOk rfl rfl rfl rfl rfl rfl kq3 rfl (fun w4 k4 f4 => ?_)
      refine sA [] rfl ?_
      exact retG tabOk (.inr rfl) rfl [.agg ⟨[i64 0, i64 0]⟩, i64 0] ⟨⟨_, rfl, .inl ⟨rfl, _, rfl, rfl, Cs.of_blk k4⟩⟩, rfl, trivial⟩ ⟨rfl, hf3.trans f4 fun z hz e => by have : z = q := e; have := f1.size; omega⟩
end Go.Wk.YtfgllkflnkolhaaDoor
