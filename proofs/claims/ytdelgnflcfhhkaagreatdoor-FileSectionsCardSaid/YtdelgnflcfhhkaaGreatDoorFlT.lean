/-
  Chapter 17: what Decode answers is small.
-/
import Derived.Test.YtdelgnflcfhhkaaGreatDoorFlV
set_option linter.unusedVariables false
namespace Go.Wk.YtdelgnflcfhhkaaGreatDoor
open Go Go.Wk Go.Proofs

theorem zM_smq : SmQ zM.p := ⟨Nat.zero_le _, (fun t ht => by cases ht), Nat.zero_le _, Nat.zero_le _, ⟨Nat.zero_le _, Nat.zero_le _, Nat.zero_le _, Nat.zero_le _, Nat.zero_le _, Nat.zero_le _⟩, fun b hb => by cases hb⟩
theorem decT_smq (t : List UInt8) : SmQ (decT t).1 := by
  unfold decT
  split
  · rename_i h1
    split
    · exact decT_e h1
    · exact zM_smq
  · exact zM_smq
theorem decA_smq (s : List UInt8) : SmQ (decA s).1 := by
  unfold decA
  split
  · exact zM_smq
  split
  · exact zM_smq
  split
  · exact zM_smq
  exact decT_smq _
end Go.Wk.YtdelgnflcfhhkaaGreatDoor
