/-
  Chapter 17: a model is written and read (heraldlaw17.awake).
-/
import Derived.Test.YtdelgnflcfhhkaaGreatDoorFlM
import Derived.Test.YtdelgnflcfhhkaaGreatDoorFlI
import Derived.Test.YtdelgnflcfhhkaaGreatDoorPShYb
import Derived.Test.YtdelgnflcfhhkaaGreatDoorPSz
set_option linter.unusedVariables false
namespace Go.Wk.YtdelgnflcfhhkaaGreatDoor
open Go Go.Wk Go.Proofs

def smallS : Shp := ⟨3, 4, 2, 1, 1, 2⟩
theorem small_ok : okS smallS := by decide
theorem small_q : smpQ smallS 0 = sampleP smallS 0 := if_pos small_ok
theorem small_valid : (validQ (sampleP smallS 0)).2.2 = 0 := by decide +kernel
theorem small_len : (fileQ (sampleP smallS 0)).length = 355 := by
  rw [fileQ_len]
  decide +kernel
theorem blk_inv {w : World} {b o : Nat} {cs : List Value} {t : TypeId} {v : Value} (h : Blk w b cs t) (hc : w.cell? ⟨b, o, none⟩ = some v) : cs[o]? = some v := by
  unfold Blk at h
  simpa [World.cell?, h] using hc
/-- kinds of values -/
def kdV : Value → Nat
  | .int .i8 _ => 1
  | .string _ => 2
  | .int .i64 _ => 3
  | .slice _ _ _ => 4
  | _ => 0
def KZ : List Nat := [3, 3, 3, 3, 3, 3, 4, 4, 4, 3, 4, 4, 4, 4, 4, 4, 3]
theorem kz_at {o : Nat} {u : Value} (h : (lmC zM)[o]? = some u) : KZ[o]? = some (kdV u) := by
  have e : KZ = (lmC zM).map kdV := rfl
  rw [e, List.getElem?_map, h]; rfl
/-- a model without merges lies off an empty model's block -/
theorem off_zero {w : World} {p : Nat} {t : TypeId} {m : LM} (kp : Blk w p (lmC zM) t) (hm : m.At w) (hg : m.V.merges = []) : m.Off p := by
  have row : ∀ r : Rw, r.At w → CsOff p r.A (r.xs.map i8v) := fun r hr hne a ha e => by
    cases hx : r.xs with
    | nil => rw [hx] at hne; exact hne rfl
    | cons x l =>
      obtain ⟨b, o, e2, hcc⟩ := hr 0 (i8v x) (by rw [hx]; rfl)
      rw [ha] at e2; cases e2
      have e : b = p := e
      rw [e] at hcc
      have := List.mem_of_getElem? (kz_at (blk_inv kp hcc))
      revert this
      show 1 ∈ KZ → False
      decide
  refine ⟨fun hne a ha e => ?_, fun hne => by rw [hg] at hne; exact absurd rfl hne, fun hne a ha e => ?_, fun r hr => row r (hm.rows r hr), fun b hb r hr => row r (hm.bs b hb r hr)⟩
  · cases hx : m.V.texts with
    | nil => rw [hx] at hne; exact hne rfl
    | cons x l =>
      obtain ⟨b, o, e2, hcc⟩ := hm.voc.1 0 (sv x) (by rw [hx]; rfl)
      rw [ha] at e2; cases e2
      have e : b = p := e
      rw [e] at hcc
      have := List.mem_of_getElem? (kz_at (blk_inv kp hcc))
      revert this
      show 2 ∈ KZ → False
      decide
  · cases hx : m.bs with
    | nil => rw [hx] at hne; exact hne rfl
    | cons x l =>
      obtain ⟨b, o, e2, hc0⟩ := hm.blk 0 x.g1.v (by rw [hx]; rfl)
      obtain ⟨b2, o2, e3, hc6⟩ := hm.blk 6 (i64 x.qs) (by rw [hx]; rfl)
      obtain ⟨b3, o3, e4, hc7⟩ := hm.blk 7 (i64 x.ks) (by rw [hx]; rfl)
      rw [ha] at e2 e3 e4; cases e2; cases e3; cases e4
      have e : b = p := e
      rw [e] at hc0 hc6 hc7
      have h0 := kz_at (blk_inv kp hc0)
      have h6 := kz_at (blk_inv kp hc6)
      have h7 := kz_at (blk_inv kp hc7)
      have hl : o + 7 < 17 := (List.getElem?_eq_some_iff.1 h7).1
      have key : ∀ o, o < 17 → ¬ (KZ[o + 0]? = some 4 ∧ KZ[o + 6]? = some 3 ∧ KZ[o + 7]? = some 3) := by decide
      exact key o (by omega) ⟨h0, h6, h7⟩
theorem lSmall (w : World) : CallsF Tryz.prog 24 [] w fun r w' => ∃ m : LM, r = lmV m ∧ m.p = sampleP smallS 0 ∧ m.At w' ∧ Fr no w w' := by
  refine callsF Tryz.func24 rfl rfl (by decide) rfl ?_
  refine sA [] rfl ?_
  refine ev_alloc rfl rfl inf56 (fun p w1 hp kp f1 => ?_)
  refine sA [] rfl ?_
  refine ev_build rfl rfl (v := shpV smallS) rfl (fun w => by kernel_rfl) ?_
  refine ev_call rfl rfl rfl (refSampleA smallS 0 w1 (by decide)) ?_
  rintro r w2 ⟨m, rfl, hmp, hm, f2⟩
  rw [show smpQ smallS 0 = sampleP smallS 0 from if_pos small_ok] at hmp
  have kp2 := kp.fr0 f2
  have hpl := kp2.lt
  refine sA [] rfl ?_
  refine ev_alloc rfl rfl inf56 (fun q w3 hq kq f3 => ?_)
  refine ev_storeAgg tabOk rfl rfl rfl rfl rfl rfl kq rfl (fun w4 kq f4 => ?_)
  have h24 : Fr no w2 w4 := f3.trans f4 fun z hz e => by have : z = q := e; omega
  have kq : Blk w4 q (lmC m) 56 := kq
  have kp4 := kp2.fr0 h24
  have kp4z : Blk w4 p (lmC zM) 56 := kp4
  refine sA [] rfl ?_; refine ev_loadAggB rfl rfl tabOk rfl rfl ‹_› (by rfl) ?_
  refine ev_storeAgg tabOk rfl rfl rfl rfl rfl rfl kp4 rfl (fun w5 kp5 f5 => ?_)
  have hF5 : Fr no w w5 := ((f1.tr f2).tr h24).trans f5 fun z hz e => by have : z = p := e; omega
  have hmg : m.V.merges = [] := by
    have := congrArg Md.V hmp
    have e : m.V = (sampleP smallS 0).V := this
    rw [e]; rfl
  have h15 : m.At w5 := (hm.fr0 h24).off (off_zero kp4z (hm.fr0 h24) hmg) f5
  refine sA [] rfl ?_
  exact retG tabOk (.inr rfl) rfl [lmV m] ⟨⟨_, rfl, .inl ⟨rfl, _, rfl, rfl, Cs.of_blk kp5⟩⟩, trivial⟩ ⟨m, rfl, hmp, h15, hF5⟩
set_option maxRecDepth 10000 in
theorem lAwake17 (w : World) : CallsF Tryz.prog 7 [] w fun r w' => r = .bool true ∧ Fr no w w' := by
  have hea : encA (sampleP smallS 0) = (fileQ (sampleP smallS 0), 0) := if_pos small_valid
  have hda := decA_back small_valid
  have hln := small_len
  refine callsF Tryz.func7 rfl rfl (by decide) rfl ?_
  refine sA [] rfl ?_
  refine ev_call rfl rfl rfl (lSmall w) ?_
  rintro r w1 ⟨m, rfl, hmp, hm, f1⟩
  have hml : m.Sm := smp_Sm (hmp.trans small_q.symm)
  skip
  refine ev_call rfl rfl rfl (refTo m w1 hm hml) ?_
  rintro r w2 ⟨u, rfl, hup, hO⟩
  have hul := Sm_p hup hml
  skip
  refine ev_call rfl rfl rfl (wEncode u w2 hO.At hul hO.cap) ?_
  rintro r w3 ⟨rfl, f3⟩
  rw [hup, hmp, hea]
  obtain ⟨F, hF⟩ : ∃ F, F = fileQ (sampleP smallS 0) := ⟨_, rfl⟩
  rw [← hF] at hda hln ⊢
  refine sA [] rfl ?_
  refine ev_call rfl rfl rfl (wDecode F w3 (by omega)) ?_
  rintro r w4 ⟨n, rfl, hnp, hOn⟩
  rw [hda] at hnp ⊢
  have hFr4 := ((f1.tr hO.fr).tr f3).tr hOn.fr
  have hnl := Sm_p (hnp.trans hmp.symm) hml
  refine sA [] rfl ?_
  refine ev_alloc rfl rfl inf47 (fun p w5 hp kp f5 => ?_)
  refine ev_storeAgg tabOk rfl rfl rfl rfl rfl rfl kp rfl (fun w6 kp f6 => ?_)
  have h46 : Fr no w4 w6 := f5.trans f6 fun z hz e => by have : z = p := e; omega
  have kp : Blk w6 p (lmC n) 47 := kp
  have hF6 := hFr4.tr h46
  have hn6 := hOn.At.fr0 h46
  refine sC [] rfl ?_; refine sC [] rfl ?_; refine sC [] rfl ?_
  rw [hln]
  rw [show decide (((355 : Nat) : Int) = 355) = true from rfl]
  refine sA [] rfl ?_; refine ev_loadAggB rfl rfl tabOk rfl rfl ‹_› (by rfl) ?_
  rw [show decide ((sampleP smallS 0, (0 : Int)).2 = 0) = true from rfl]
  skip
  refine ev_call rfl rfl rfl (refOf n w6 hn6 hnl) ?_
  rintro r w7 ⟨t, rfl, htp, hOt⟩
  skip
  refine ev_call rfl rfl rfl (lSmall w7) ?_
  rintro r w8 ⟨m2, rfl, hm2p, hm2, f8⟩
  skip
  refine ev_call rfl rfl rfl (refSameM t m2 w8 (hOt.At.fr0 f8) hm2 (Sm_p htp hnl) (smp_Sm (hm2p.trans small_q.symm))) ?_
  rintro r w9 ⟨rfl, f9⟩
  rw [eqB_t (show t.p = m2.p by rw [htp, hnp, hm2p])]
  refine sA [] rfl ?_
  exact ret1 (.inr rfl) rfl rfl ⟨rfl, ((hF6.tr hOt.fr).tr f8).tr f9⟩
end Go.Wk.YtdelgnflcfhhkaaGreatDoor
