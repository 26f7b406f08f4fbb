/-
  The walks of chapter 14: strings.Builder with room; one byte written.
-/
import Derived.Test.YtpnhfkmgnkdleaaDoorStD
import Derived.Test.YtpnhfkmgnkdleaaDoorStJ
import Derived.Test.YtpnhfkmgnkdleaaDoorCopy
import Derived.Test.YtpnhfkmgnkdleaaDoorSpG
set_option linter.unusedVariables false
namespace Go.Wk.YtpnhfkmgnkdleaaDoor
open Go Go.Wk Go.Proofs Go.Lib

theorem bdWriteC (b : Nat) (v : Value) (bs s : List UInt8) (w : World) (h : Bd w b v bs) (hs : bs.length + s.length ≤ 140737488355328) :
    CallsF Tryd.prog 55 [.pointer (some ⟨b, 0, none⟩), .string (sOf s)] w fun r w' => ∃ v', Bd w' b v' (bs ++ s) ∧ Fr (BS b v) w w' ∧ NB w v v' ∧ capV v ≤ capV v' := by
  obtain ⟨p, hp, hb, ho, hne⟩ := h
  refine callsF Tryd.func55 rfl rfl (by decide) rfl ?_
  refine sA [] rfl ?_
  refine ev_call rfl rfl rfl (copyCheck b p v w hp hb) (fun r w1 hr => ?_)
  obtain ⟨hb1, hf1⟩ := hr
  have ho1 := ho.fr hf1 (fun g hg e => hne (e ▸ hg))
  have c1 : w1.cell? ⟨b, 1, none⟩ = some v := hb1.cell rfl
  refine sA [] rfl ?_; refine ev_load rfl rfl tabOk rfl rfl ‹_› ?_; refine sA [] rfl ?_
  refine ev_appendStrC tabOk rfl rfl rfl rfl inf5 rfl rfl ho1 hs (fun v' w2 ho2 hf2 hn2 hc2 => ?_)
  have hbl := hb1.lt
  have hb2 := hb1.fr hf2 hne
  have hne2 : v'.ownBlock ≠ some b := fun e => by
    rcases hn2 b e with h1 | h1
    · exact hne h1
    · omega
  clear c1
  refine sA [] rfl ?_
  refine ev_store tabOk rfl rfl rfl rfl rfl ?_ hb2 rfl (fun w3 hb3 hf3 => ?_)
  · rcases ho2.2 with ⟨rfl, _⟩ | ⟨g, cap, cur, rfl, _⟩ <;> rfl
  refine sA [] rfl ?_
  have hl : bs.map bv ++ s.map bv = (bs ++ s).map bv := by simp
  rw [hl] at ho2
  refine ret2 (.inr rfl) rfl rfl rfl ⟨v', ⟨_, .inr rfl, hb3, ?_, hne2⟩, ?_, fun g hg => ?_, hc2⟩
  · have := ho2.fr hf3 (fun g hg e => hne2 (e ▸ hg))
    rw [List.length_append]; exact this
  · exact ((hf1.mono fun c _ e => .inl e).trans hf2 (fun c _ e => .inr e)).trans hf3 (fun c _ e => .inl e)
  · rcases hn2 g hg with h1 | h1
    · exact .inl h1
    · exact .inr (Nat.le_trans hf1.size h1)

theorem bdByte (b : Nat) (v : Value) (bs : List UInt8) (c : UInt8) (w : World) (h : Bd w b v bs) (hs : bs.length + 1 ≤ 10000000000000) :
    CallsF Tryd.prog 59 [.pointer (some ⟨b, 0, none⟩), bv c] w fun r w' => ∃ v', Bd w' b v' (bs ++ [c]) ∧ Fr (BS b v) w w' ∧ NB w v v' := by
  obtain ⟨p, hp, hb, ho, hne⟩ := h
  refine callsF Tryd.func59 rfl rfl (by decide) rfl ?_
  refine sA [] rfl ?_
  refine ev_call rfl rfl rfl (copyCheck b p v w hp hb) (fun r w1 hr => ?_)
  obtain ⟨hb1, hf1⟩ := hr
  have ho1 := ho.fr hf1 (fun g hg e => hne (e ▸ hg))
  have c1 : w1.cell? ⟨b, 1, none⟩ = some v := hb1.cell rfl
  refine sA [] rfl ?_; refine ev_load rfl rfl tabOk rfl rfl ‹_› ?_; refine sA [] rfl ?_
  refine ev_append1 tabOk rfl rfl (fun _ => rfl) rfl rfl inf5 rfl (by omega) (fun _ => rfl) rfl rfl (by simp [Value.cells]) (by simp [flatV, Value.cells, Value.oneCell']) rfl ho1 (by omega) (fun v' w2 q ho2 hf2 hn2 => ?_)
  have hbl := hb1.lt
  have hb2 := hb1.fr hf2 hne
  have hne2 : v'.ownBlock ≠ some b := fun e => by
    rcases hn2 b e with h1 | h1
    · exact hne h1
    · omega
  clear c1
  refine sA [] rfl ?_
  refine ev_store tabOk rfl rfl rfl rfl rfl ?_ hb2 rfl (fun w3 hb3 hf3 => ?_)
  · rcases ho2.2 with ⟨rfl, _⟩ | ⟨g, cap, cur, rfl, _⟩ <;> rfl
  refine sA [] rfl ?_
  have hl : bs.map bv ++ flatV [bv c] = (bs ++ [c]).map bv := by simp [flatV, Value.cells]
  rw [hl] at ho2
  refine ret1 (.inr rfl) rfl rfl ⟨v', ⟨_, .inr rfl, hb3, ?_, hne2⟩, ?_, fun g hg => ?_⟩
  · have := ho2.fr hf3 (fun g hg e => hne2 (e ▸ hg))
    rw [List.length_append]; exact this
  · exact ((hf1.mono fun c _ e => .inl e).trans hf2 (fun c _ e => .inr e)).trans hf3 (fun c _ e => .inl e)
  · rcases hn2 g hg with h1 | h1
    · exact .inl h1
    · exact .inr (Nat.le_trans hf1.size h1)

theorem bdCap (b : Nat) (v : Value) (bs : List UInt8) (w : World) (h : Bd w b v bs) :
    CallsF Tryd.prog 58 [.pointer (some ⟨b, 0, none⟩)] w fun r w' => r = .int .i64 (capV v) ∧ w' = w := by
  obtain ⟨p, hp, hb, ho, hne⟩ := h
  obtain ⟨A, c, rfl, _⟩ := ho.slice
  refine callsF Tryd.func58 rfl rfl (by decide) rfl ?_
  refine sA [] rfl ?_; refine ev_loadB rfl rfl tabOk rfl rfl ‹_› (by rfl) ?_
  refine ev_cap rfl rfl tabOk rfl rfl ?_
  refine sA [] rfl ?_
  exact ret1 (.inr rfl) rfl rfl ⟨rfl, rfl⟩

/-- everything from this block on -/
abbrev up (b : Nat) : Nat → Prop := fun c => b ≤ c
theorem bdGrow (b n : Nat) (w : World) (h : Blk w b [.pointer none, .slice none 0 0] 89) (hn : n ≤ 281474976710656) :
    CallsF Tryd.prog 57 [.pointer (some ⟨b, 0, none⟩), .int .i64 n] w fun r w' => ∃ v', Bd w' b v' [] ∧ Fr (up b) w w' ∧ (∀ g, v'.ownBlock = some g → b ≤ g) ∧ n ≤ capV v' := by
  refine ⟨⟨_, Tryd.func57, by decide, rfl⟩, ?_⟩
  refine (Go.Proofs.Tryd.Builder_Grow_fresh_cap b b n w (Nat.le_refl _) h (Nat.le_of_lt h.lt) hn).mono fun e w' hh => ?_
  obtain ⟨rfl, ⟨⟨_, v, h1, h2, h3⟩, hbl⟩, p, cap, hc, hcap⟩ := hh
  have hB : Blk w' b [.pointer (some ⟨b, 0, none⟩), v] 89 := h1
  have hv : v = .slice p 0 cap := by
    have := hB.cell (o := 1) (v := v) rfl
    rw [hc] at this
    cases this; rfl
  refine ⟨_, rfl, v, ⟨_, .inr rfl, hB, ⟨h2.1, ?_⟩, h3⟩, ⟨hbl.os, hbl.tape, hbl.output, hbl.size, fun c hc hn => hbl.block c (by simp only [up] at hn; omega)⟩, fun g hg => ?_, by rw [hv]; exact hcap⟩
  · rcases h2.2 with h4 | ⟨g, cp, cur, e, hg, r⟩
    · exact .inl h4
    · exact .inr ⟨g, cp, cur, e, Nat.zero_le _, r⟩
  · rcases h2.2 with ⟨e, _⟩ | ⟨g', cp, cur, e, hg', r⟩
    · rw [e] at hg; cases hg
    · rw [e] at hg; cases hg; exact hg'
end Go.Wk.YtpnhfkmgnkdleaaDoor
