/-
  Plain facts: what was written is read back.
-/
import Derived.Test.YtihjpjpellagiaaWireW
set_option linter.unusedVariables false
namespace Go.Wk.Ytihjpjpellagiaa
open Go Go.Wk Go.Proofs

theorem leN_leB {n : Int} (h : 0 ≤ n) : ∀ k, (leN (leB n k) : Int) = n % 256 ^ k
  | 0 => by simp [leB, leN]
  | k + 1 => by
    have ih := leN_leB h k
    obtain ⟨m, rfl⟩ := Int.eq_ofNat_of_zero_le h
    rw [leB_snoc, leN_snoc, leB_len]
    have hb : ((byteAt (m : Int) k).toNat : Int) = (m : Int) / 256 ^ k % 256 := toNat_ofNat (by omega) (by omega)
    have hc : (256 : Int) ^ k = ((256 ^ k : Nat) : Int) := by simp
    rw [hc] at hb ih
    have h1 : (byteAt (m : Int) k).toNat = m / 256 ^ k % 256 := Int.ofNat.inj (hb.trans (by rw [← Int.natCast_ediv]; rfl))
    have h2 : leN (leB (m : Int) k) = m % 256 ^ k := Int.ofNat.inj (ih.trans (Int.natCast_emod _ _).symm)
    rw [h1, h2]
    have h3 : m % 256 ^ (k + 1) = m % 256 ^ k + 256 ^ k * (m / 256 ^ k % 256) := by rw [Nat.pow_succ, Nat.mod_mul]
    rw [← h3]
    simp

theorem cut_mid (pre mid post : List UInt8) {k : Nat} (hk : k = mid.length) : cut (pre ++ (mid ++ post)) pre.length k = mid := by
  subst hk; simp [cut]
theorem numB_eq {n b : Int} (h : numE n b = 0) : numB n b = leB n b.toNat := by unfold numB; rw [if_pos h]
theorem numB_bad {n b : Int} (h : numE n b ≠ 0) : numB n b = [] := by unfold numB; rw [if_neg h]
theorem numE_ok {n b : Int} (h : numE n b = 0) : (b = 1 ∨ b = 2 ∨ b = 4 ∨ b = 8) ∧ 0 ≤ n ∧ (b < 8 → n < 256 ^ b.toNat) := by
  unfold numE at h
  split at h
  · rename_i hb
    split at h
    · cases h
    · rename_i h2
      exact ⟨hb, by omega, fun h8 => by
        by_cases hc : 256 ^ b.toNat ≤ n
        · exact absurd (.inr ⟨h8, hc⟩) h2
        · omega⟩
  · cases h
theorem back_num (pre post : List UInt8) {n b : Int} (h : numE n b = 0) (hn : n ≤ 9223372036854775807) {s : List UInt8} (hs : s = pre ++ (numB n b ++ post)) :
    rnE s pre.length b = 0 ∧ rnV s pre.length b = n ∧ rnA s pre.length b = pre.length + (numB n b).length := by
  obtain ⟨hb, h0, hlt⟩ := numE_ok h
  have hB := numB_eq h
  have hl : (numB n b).length = b.toNat := by rw [hB, leB_len]
  have hc : cut s pre.length b.toNat = leB n b.toNat := by rw [hs, hB]; exact cut_mid pre _ post (leB_len _ _).symm
  have hv : (leN (leB n b.toNat) : Int) = n := by
    rw [leN_leB h0]
    refine Int.emod_eq_of_lt h0 ?_
    rcases hb with rfl | rfl | rfl | rfl
    · exact hlt (by omega)
    · exact hlt (by omega)
    · exact hlt (by omega)
    · have : (256 : Int) ^ (8 : Int).toNat = 18446744073709551616 := by decide
      omega
  have hsl : s.length = pre.length + (b.toNat + post.length) := by rw [hs]; simp [hl]
  have hE : rnE s pre.length b = 0 := by
    unfold rnE
    rw [if_pos hb, if_neg (by omega), hc, if_neg (by omega)]
  refine ⟨hE, ?_, ?_⟩
  · unfold rnV; rw [if_pos hE, hc, hv]
  · unfold rnA; rw [if_pos hE, hl]
theorem back_raw (pre mid post : List UInt8) {s : List UInt8} (hs : s = pre ++ (mid ++ post)) {m : Int} (hm : m = mid.length) :
    rrE s pre.length m = 0 ∧ rrV s pre.length m = mid ∧ rrA s pre.length m = pre.length + mid.length := by
  subst hm
  have hsl : s.length = pre.length + (mid.length + post.length) := by rw [hs]; simp
  have hE : rrE s pre.length mid.length = 0 := by unfold rrE; rw [if_neg (by omega), if_neg (by omega)]
  refine ⟨hE, ?_, ?_⟩
  · unfold rrV; rw [if_pos hE, hs]; exact cut_mid pre mid post (by omega)
  · unfold rrA; rw [if_pos hE]; omega
theorem txtE (m : Nat) (h : m ≤ 4294967295) : numE m 4 = 0 := by
  have hpw : (256 : Int) ^ (4 : Int).toNat = 4294967296 := by decide
  unfold numE; rw [if_pos (by omega), if_neg (by rw [hpw]; omega)]
theorem back_txt (pre t post : List UInt8) {s : List UInt8} (hs : s = pre ++ (txtB t ++ post)) (ht : t.length ≤ 4294967295) :
    rtE s pre.length t.length = 0 ∧ rtV s pre.length t.length = t ∧ rtA s pre.length t.length = pre.length + (txtB t).length := by
  have hN := txtE t.length ht
  have hB : numB t.length 4 = leB t.length 4 := numB_eq hN
  have h1 := back_num pre (t ++ post) hN (by omega) (s := s) (by rw [hs, hB]; simp [txtB])
  obtain ⟨e1, e2, e3⟩ := h1
  have h2 := back_raw (pre ++ leB t.length 4) t post (s := s) (by rw [hs]; simp [txtB]) (m := t.length) rfl
  have e4 : (pre ++ leB (t.length : Int) 4).length = rnA s pre.length 4 := by rw [e3, hB]; simp
  rw [e4] at h2
  obtain ⟨f1, f2, f3⟩ := h2
  have hE : rtE s pre.length t.length = 0 := by
    unfold rtE
    rw [if_neg (by omega), if_neg (by omega), e2, if_neg (by omega), f1]
  refine ⟨hE, ?_, ?_⟩
  · unfold rtV; rw [if_pos hE, e2, f2]
  · unfold rtA; rw [if_pos hE, e2, f3, e3, hB]; simp [txtB, Nat.add_assoc]
theorem back_row (l : List Int8) : (rowB l).map (fun b => iv b.toInt8) = l.map iv := by
  simp [rowB, Function.comp_def]

/-- whether an op was written -/
def okB (x : OpV) : Bool := if x.kind % 4 = 0 then decide (numE x.n x.bytes = 0) else true
theorem opsB_split {ops : List OpV} {k : Nat} {x : OpV} (hx : ops[k]? = some x) (t : List UInt8) : opsB ops ++ t = opsB (ops.take k) ++ (opB x ++ (opsB (ops.drop (k + 1)) ++ t)) := by
  obtain ⟨h1, h2⟩ := List.getElem?_eq_some_iff.1 hx
  have e : ops = ops.take k ++ (x :: ops.drop (k + 1)) := by rw [← h2, List.getElem_cons_drop, List.take_append_drop]
  conv => lhs; rw [e]
  simp [opsB]
end Go.Wk.Ytihjpjpellagiaa
