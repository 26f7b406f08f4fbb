/-
  The walks of chapter 14: strings.Builder; a character decoded.
-/
import Derived.Test.YtpnhfkmgnkdleaaDoorStA
set_option linter.unusedVariables false
namespace Go.Wk.YtpnhfkmgnkdleaaDoor
open Go Go.Wk Go.Proofs Go.Lib

/-- a builder at block b: its row v holds bs -/
def Bd (w : World) (b : Nat) (v : Value) (bs : List UInt8) : Prop :=
  ∃ p, (p = .pointer none ∨ p = .pointer (some ⟨b, 0, none⟩)) ∧ Blk w b [p, v] 89 ∧ Own w 5 1 v bs.length (bs.map bv) ∧ v.ownBlock ≠ some b
def BS (b : Nat) (v : Value) : Nat → Prop := fun c => c = b ∨ v.ownBlock = some c
theorem BS_sub {w : World} {p : Nat} {v v1 : Value} (hn : NB w v v1) : ∀ b, b < w.heap.size → BS p v1 b → BS p v b := fun b hb h => by
  rcases h with h | h
  · exact .inl h
  · rcases hn b h with h1 | h1
    · exact .inr h1
    · omega
theorem Bd.lt {w : World} {b : Nat} {v : Value} {bs : List UInt8} (h : Bd w b v bs) : b < w.heap.size := by obtain ⟨_, _, hb, _⟩ := h; exact hb.lt
theorem Bd.own {w : World} {b : Nat} {v : Value} {bs : List UInt8} (h : Bd w b v bs) : Own w 5 1 v bs.length (bs.map bv) := by obtain ⟨_, _, _, ho, _⟩ := h; exact ho
theorem Bd.fr {S : Nat → Prop} {w w' : World} {b : Nat} {v : Value} {bs : List UInt8} (h : Bd w b v bs) (hf : Fr S w w') (h1 : ¬ S b) (h2 : ∀ g, v.ownBlock = some g → ¬ S g) : Bd w' b v bs := by
  obtain ⟨p, hp, hb, ho, hn⟩ := h
  exact ⟨p, hp, hb.fr hf h1, ho.fr hf h2, hn⟩
theorem Bd.fr0 {w w' : World} {b : Nat} {v : Value} {bs : List UInt8} (h : Bd w b v bs) (hf : Fr no w w') : Bd w' b v bs := h.fr hf id fun _ _ => id

theorem copyCheck (b : Nat) (p v : Value) (w : World) (hp : p = .pointer none ∨ p = .pointer (some ⟨b, 0, none⟩)) (hb : Blk w b [p, v] 89) :
    CallsF Tryd.prog 79 [.pointer (some ⟨b, 0, none⟩)] w fun r w' => Blk w' b [.pointer (some ⟨b, 0, none⟩), v] 89 ∧ Fr (fun c => c = b) w w' := by
  have c0 : w.cell? ⟨b, 0, none⟩ = some p := hb.cell rfl
  refine callsF Tryd.func79 rfl rfl (by decide) rfl ?_
  rcases hp with rfl | rfl
  · refine sA [] rfl ?_; refine ev_load rfl rfl tabOk rfl rfl ‹_› ?_; refine sA [] rfl ?_
    refine ev_toUnsafe tabOk rfl rfl rfl rfl Tryd.underlying125 inf89 rfl hb rfl ?_
    refine ev_ext rfl rfl rfl Tryd.func94 (by kernel_rfl) (by kernel_rfl) (by kernel_rfl) (by kernel_rfl) (run_noEscape w _) ?_
    refine ev_fromUnsafe tabOk rfl rfl rfl Tryd.underlying125 rfl inf89 hb (by kernel_rfl) ?_
    refine sA [] rfl ?_
    refine ev_store tabOk rfl rfl rfl rfl rfl rfl hb rfl (fun w2 hb2 hf2 => ?_)
    refine sA [] rfl ?_
    exact ret0 (.inl rfl) rfl ⟨hb2, hf2⟩
  · refine sA [] rfl ?_; refine ev_load rfl rfl tabOk rfl rfl ‹_› ?_; refine sA [] rfl ?_; refine ev_load rfl rfl tabOk rfl rfl ‹_› ?_; refine sA [] rfl ?_
    refine ev_neqPtr tabOk rfl rfl rfl rfl rfl inf89 ?_
    refine sA [] rfl ?_
    exact ret0 (.inl rfl) rfl ⟨hb, Fr.refl _ _⟩

theorem bdWrite (b : Nat) (v : Value) (bs s : List UInt8) (w : World) (h : Bd w b v bs) (hs : bs.length + s.length ≤ 140737488355328) :
    CallsF Tryd.prog 55 [.pointer (some ⟨b, 0, none⟩), .string (sOf s)] w fun r w' => ∃ v', Bd w' b v' (bs ++ s) ∧ Fr (BS b v) w w' ∧ NB w v v' := by
  obtain ⟨p, hp, hb, ho, hne⟩ := h
  refine callsF Tryd.func55 rfl rfl (by decide) rfl ?_
  refine sA [] rfl ?_
  refine ev_call rfl rfl rfl (copyCheck b p v w hp hb) (fun r w1 hr => ?_)
  obtain ⟨hb1, hf1⟩ := hr
  have ho1 := ho.fr hf1 (fun g hg e => hne (e ▸ hg))
  have c1 : w1.cell? ⟨b, 1, none⟩ = some v := hb1.cell rfl
  refine sA [] rfl ?_; refine ev_load rfl rfl tabOk rfl rfl ‹_› ?_; refine sA [] rfl ?_
  refine ev_appendStr tabOk rfl rfl rfl rfl inf5 rfl rfl ho1 hs (fun v' w2 ho2 hf2 hn2 => ?_)
  have hn2 := NB.of hn2
  have hbl := hb1.lt
  have hb2 := hb1.fr hf2 hne
  have hne2 : v'.ownBlock ≠ some b := fun e => by
    rcases hn2 b e with h1 | h1
    · exact hne h1
    · omega
  clear c1
  refine sA [] rfl ?_
  refine ev_store tabOk rfl rfl rfl rfl rfl ?_ hb2 rfl (fun w3 hb3 hf3 => ?_)
  · rcases ho2.2 with ⟨rfl, _⟩ | ⟨g, cap, cur, rfl, _⟩ <;> rfl
  refine sA [] rfl ?_
  have hl : bs.map bv ++ s.map bv = (bs ++ s).map bv := by simp
  rw [hl] at ho2
  refine ret2 (.inr rfl) rfl rfl rfl ⟨v', ⟨_, .inr rfl, hb3, ?_, hne2⟩, ?_, fun g hg => ?_⟩
  · have := ho2.fr hf3 (fun g hg e => hne2 (e ▸ hg))
    rw [List.length_append]; exact this
  · exact ((hf1.mono fun c _ e => .inl e).trans hf2 (fun c _ e => .inr e)).trans hf3 (fun c _ e => .inl e)
  · rcases hn2 g hg with h1 | h1
    · exact .inl h1
    · exact .inr (Nat.le_trans hf1.size h1)

theorem bdString (b : Nat) (v : Value) (bs : List UInt8) (w : World) (h : Bd w b v bs) :
    CallsF Tryd.prog 56 [.pointer (some ⟨b, 0, none⟩)] w fun r w' => r = .string (sOf bs) ∧ Fr (BS b v) w w' := by
  obtain ⟨p, hp, hb, ho, hne⟩ := h
  have hbl := hb.lt
  have c1 : ∀ w', Fr no w w' → w'.cell? ⟨b, 1, none⟩ = some v := fun w' hf => (hb.fr0 hf).cell rfl
  obtain ⟨A, c, e1, _, _⟩ := ho.slice
  refine callsF Tryd.func56 rfl rfl (by decide) rfl ?_
  refine sA [] rfl ?_
  refine mixC_in (fun w' => Fr (BS b v) w w' ∧ w'.cell? ⟨b, 1, none⟩ = some v) mixed (fun w1 hf1 => ?_)
  have hC : ∀ w', Fr no w w' → Fr (BS b v) w w' ∧ w'.cell? ⟨b, 1, none⟩ = some v := fun w' hf => ⟨hf.mono fun _ _ z => z.elim, c1 w' hf⟩
  refine mA rfl (by kernel_rfl) (by kernel_rfl) ?_
  refine m_load 3 rfl rfl rfl (by kernel_rfl) (by kernel_rfl) rfl rfl tabOk rfl rfl (fun w' hw' => hw'.2) ?_
  refine m_load 8 rfl rfl rfl (by kernel_rfl) (by kernel_rfl) rfl rfl tabOk rfl rfl (fun w' hw' => hw'.2) ?_
  subst e1
  refine mA rfl (by kernel_rfl) (by kernel_rfl) ?_
  have ho1 := ho.fr0 hf1
  refine mix1 rfl rfl ?_ (hC _ hf1)
  refine ev_sliceData tabOk rfl rfl rfl Tryd.underlying117 ho1 (fun q w2 hf2 hq => ?_)
  have ho2 := ho1.fr0 hf2
  refine mix_op ?_
  refine mix1 rfl rfl ?_ (hC _ (hf1.tr hf2))
  refine ev_unsafeStr tabOk rfl rfl rfl rfl Tryd.underlying117 (by kernel_rfl) ho2 hq (fun w3 hf3 => ?_)
  have hf13 : Fr (BS b (.slice A bs.length c)) w w3 := ((hf1.tr hf2).mono fun _ _ z => z.elim).trans hf3 (fun _ _ z => .inr z)
  have c3 : w3.cell? ⟨b, 1, none⟩ = some (.slice A bs.length c) := cell_fr (c1 _ (hf1.tr hf2)) hf3 hne
  refine mix_op ?_
  refine mA rfl (by kernel_rfl) (by kernel_rfl) ?_
  refine mix_out rfl ?_ ⟨hf13, c3⟩
  refine sA [] rfl ?_
  exact ret1 (.inr rfl) rfl rfl ⟨rfl, hf13⟩
end Go.Wk.YtpnhfkmgnkdleaaDoor
