/-
  The walks of chapter 14: a stream fed, and ended.
-/
import Derived.Test.YtpnhfkmgnkdleaaDoorStH
import Derived.Test.YtpnhfkmgnkdleaaDoorMevs
set_option linter.unusedVariables false
namespace Go.Wk.YtpnhfkmgnkdleaaDoor
open Go Go.Wk Go.Proofs Go.Lib

theorem hlf_le (s : List UInt8) : hlf s ≤ s.length := by unfold hlf; (repeat' split) <;> omega
/-- what feeding does -/
def FeedR (S : SV) (piece : List UInt8) (S' : SV) (r : List UInt8) : Prop :=
  if S.done || S.ended then S' = S ∧ r = []
  else (∃ n, S.raw.length < n ∧ n ≤ (S.raw ++ piece).length ∧ (∀ m, S.raw.length < m → m < n → stpA S.stops ((S.raw ++ piece).take m) < 0) ∧ 0 ≤ stpA S.stops ((S.raw ++ piece).take n) ∧
      r = clean ((S.raw ++ piece).take (n - (S.stops.getD (stpA S.stops ((S.raw ++ piece).take n)).toNat []).length)) ∧
      S' = { S with raw := [], out := S.out ++ r, met := stpA S.stops ((S.raw ++ piece).take n), done := true }) ∨
    ((∀ m, S.raw.length < m → m ≤ (S.raw ++ piece).length → stpA S.stops ((S.raw ++ piece).take m) < 0) ∧ ∃ b, IsB S.stops (S.raw ++ piece) S.stops.length b ∧
      r = clean ((S.raw ++ piece).take ((S.raw ++ piece).length - max (hlf (S.raw ++ piece)) b)) ∧
      S' = { S with raw := (S.raw ++ piece).drop ((S.raw ++ piece).length - max (hlf (S.raw ++ piece)) b), out := S.out ++ r })
/-- the sizes that a stream is held within -/
def SV.fit (S : SV) : Prop := (∀ t ∈ S.stops, t.length ≤ 1000000) ∧ S.stops.length ≤ 1000000 ∧ S.raw.length ≤ 100000000 ∧ S.out.length ≤ 1000000000

set_option maxHeartbeats 4000000 in
set_option maxRecDepth 40000 in
theorem sFeed (p : Nat) (v : Value) (S : SV) (piece : List UInt8) (w : World) (h : St w p v S) (hfit : S.fit) (hp : piece.length ≤ 100000000) (hT : UT w) (hp0 : 1 < p) (hv1 : ∀ g, v.ownBlock = some g → 1 < g) :
    CallsF Tryd.prog 23 [.pointer (some ⟨p, 0, none⟩), sv piece] w fun r w' => (∃ S' out, r = sv out ∧ FeedR S piece S' out ∧ St w' p v S') ∧ Fr (one p) w w' := by
  obtain ⟨hst, hsl, hraw, hout⟩ := hfit
  have hst2 : ∀ t ∈ S.stops, t.length ≤ 9223372036854775806 := fun t ht => by have := hst t ht; omega
  have c1 : w.cell? ⟨p, 1, none⟩ = some (sv S.raw) := h.1.cell rfl
  have c4 : w.cell? ⟨p, 4, none⟩ = some (.bool S.done) := h.1.cell rfl
  have c5 : w.cell? ⟨p, 5, none⟩ = some (.bool S.ended) := h.1.cell rfl
  have over : (S.done || S.ended) = true → ∀ w', w' = w → (∃ S' out, sv [] = sv out ∧ FeedR S piece S' out ∧ St w' p v S') ∧ Fr (one p) w w' := fun hd w' e => by
    subst e
    exact ⟨⟨S, [], rfl, by unfold FeedR; rw [if_pos hd]; exact ⟨rfl, rfl⟩, h⟩, Fr.refl _ _⟩
  refine callsF Tryd.func23 rfl rfl (by decide) rfl ?_
  cases hd : S.done with
  | true =>
    rw [hd] at c4
    refine sA [] rfl ?_; refine ev_load rfl rfl tabOk rfl rfl ‹_› ?_; refine sA [] rfl ?_
    exact ret1 (.inr rfl) rfl rfl (over (by rw [hd]; rfl) _ rfl)
  | false =>
  rw [hd] at c4
  cases he : S.ended with
  | true =>
    rw [he] at c5
    refine sA [] rfl ?_; refine ev_load rfl rfl tabOk rfl rfl ‹_› ?_; refine sA [] rfl ?_; refine ev_load rfl rfl tabOk rfl rfl ‹_› ?_; refine sA [] rfl ?_
    exact ret1 (.inr rfl) rfl rfl (over (by rw [hd, he]; rfl) _ rfl)
  | false =>
  rw [he] at c5
  have hno : ¬ (S.done || S.ended) = true := by rw [hd, he]; simp
  refine sA [] rfl ?_; refine ev_load rfl rfl tabOk rfl rfl ‹_› ?_; refine sA [] rfl ?_; refine ev_load rfl rfl tabOk rfl rfl ‹_› ?_; refine sA [] rfl ?_; refine ev_load rfl rfl tabOk rfl rfl ‹_› ?_; refine sA [] rfl ?_
  refine ev_concat rfl rfl rfl rfl (by omega) ?_
  obtain ⟨all, hall⟩ : ∃ all, all = S.raw ++ piece := ⟨_, rfl⟩
  have hal : all.length = S.raw.length + piece.length := by rw [hall, List.length_append]
  rw [← hall]
  refine sA [] rfl ?_; refine ev_load rfl rfl tabOk rfl rfl ‹_› ?_; refine sA [] rfl ?_; refine ev_arith rfl rfl rfl rfl rfl (by simp only [lowK, hiK]; omega) ?_; refine sA [] rfl ?_
  refine ev_loop (α := Nat) (fun n => [(0, .pointer (some ⟨p, 0, none⟩)), (5, sv all), (6, .int .i64 n)])
    (fun n w' => S.raw.length < n ∧ n ≤ all.length + 1 ∧ (∀ m, S.raw.length < m → m < n → stpA S.stops (all.take m) < 0) ∧ w' = w) (fun n => all.length + 1 - n) (S.raw.length + 1) ⟨rfl, rfl, rfl, trivial⟩ ⟨by omega, by omega, fun m h1 h2 => by omega, rfl⟩ ?_
  rintro n w1 ⟨hn1, hn2, hno2, rfl⟩
  refine sC [] rfl ?_; refine sC [] rfl ?_
  refine ev_condD rfl (fun hle => ?_) (fun hle => ?_)
  · refine sA [] rfl ?_
    refine ev_sliceStr (s := all) (i := 0) (j := n) rfl rfl tabOk rfl rfl rfl rfl (by omega) (by omega) (by omega) ?_
    rw [Int.toNat_natCast, show (0 : Int).toNat = 0 from rfl, List.drop_zero]
    refine ev_call rfl rfl rfl (sStoppedW p v S (all.take n) _ h (by rw [List.length_take]; omega) hst2 hsl) (fun q w2 hq => ?_)
    obtain ⟨rfl, rfl⟩ := hq
    obtain ⟨a, ha⟩ : ∃ a, a = stpA S.stops (all.take n) := ⟨_, rfl⟩
    have hsa := stp_lt S.stops (all.take n) S.stops.length
    rw [← ha]
    rw [show stp S.stops (all.take n) S.stops.length = a from ha.symm] at hsa
    refine sC [] rfl ?_; refine sD [] rfl ?_; refine sD [] rfl ?_; refine sD [] rfl ?_
    refine ev_condD rfl (fun h0 => ?_) (fun h0 => ?_)
    · obtain ⟨k, rfl⟩ := Int.eq_ofNat_of_zero_le (show 0 ≤ a by omega)
      have hk1 : k < S.stops.length := by omega
      obtain ⟨g, c', rfl, hcg⟩ := own_str h.2.1 hk1
      have c0 : w2.cell? ⟨p, 0, none⟩ = some (.slice (some ⟨g, 0, none⟩) S.stops.length c') := h.1.cell rfl
      have hend := hsa.2.2 (by omega)
      rw [Int.toNat_natCast] at hend
      have hel := hend.1
      rw [List.length_take] at hel
      obtain ⟨x, hx⟩ : ∃ x, x = S.stops.getD k [] := ⟨_, rfl⟩
      rw [← hx] at hend hel hcg
      refine sA [] rfl ?_; refine ev_load rfl rfl tabOk rfl rfl ‹_› ?_; refine sA [] rfl ?_
      refine ev_indexAddr rfl rfl tabOk rfl rfl rfl (by omega) (by omega) ?_
      refine ev_load rfl rfl tabOk rfl rfl ‹_› ?_; refine sA [] rfl ?_; refine ev_arith rfl rfl rfl rfl rfl (by simp only [lowK, hiK]; omega) ?_
      refine ev_sliceStr (s := all) (i := 0) rfl rfl tabOk rfl rfl rfl rfl (by omega) (by omega) (by omega) ?_
      rw [show ((n : Int) - (x.length : Int)).toNat = n - x.length by omega, show (0 : Int).toNat = 0 from rfl, List.drop_zero]
      refine sA [] rfl ?_
      refine ev_store tabOk rfl rfl rfl rfl rfl rfl h.1 rfl (fun w3 hb3 hf3 => ?_)
      refine sA [] rfl ?_
      refine ev_store tabOk rfl rfl rfl rfl rfl rfl hb3 rfl (fun w4 hb4 hf4 => ?_)
      refine sA [] rfl ?_
      refine ev_store tabOk rfl rfl rfl rfl rfl rfl hb4 rfl (fun w5 hb5 hf5 => ?_)
      have hf05 : Fr (one p) w2 w5 := (hf3.trans hf4 (fun _ _ e => e)).trans hf5 (fun _ _ e => e)
      have hS5 : St w5 p (.slice (some ⟨g, 0, none⟩) S.stops.length c') { S with raw := all.take (n - x.length), met := k, done := true } :=
        ⟨by rw [he] at hb5; rw [he]; exact hb5, h.2.1.fr hf05 (fun q hq e => h.2.2 (by rw [hq]; exact congrArg some e)), h.2.2⟩
      have c1 : w5.cell? ⟨p, 1, none⟩ = some (sv (all.take (n - x.length))) := hb5.cell rfl
      have htl : (all.take (n - x.length)).length = n - x.length := by rw [List.length_take]; omega
      refine sA [] rfl ?_; refine ev_load rfl rfl tabOk rfl rfl ‹_› ?_; refine sA [] rfl ?_
      refine ev_call rfl rfl rfl (sLet p _ _ (all.take (n - x.length)).length _ hS5 (Nat.le_refl _) (by simp only; omega) (by simp only; omega) (hT.fr hf05 (fun e => by have : 0 = p := e; omega) (fun e => by have : 1 = p := e; omega)) hp0) (fun q w6 hq => ?_)
      obtain ⟨rfl, hS6, hf6⟩ := hq
      simp only [List.take_length]
      refine sA [] rfl ?_
      refine ret1 (.inr rfl) rfl rfl ⟨⟨_, _, rfl, ?_, hS6⟩, hf05.trans hf6 (fun _ _ e => e)⟩
      unfold FeedR
      rw [if_neg hno, ← hall]
      refine .inl ⟨n, hn1, by omega, hno2, by rw [← ha]; omega, by rw [← ha, Int.toNat_natCast, ← hx], ?_⟩
      rw [← ha]
      simp only [SV.lets, List.take_length, List.drop_length]
    · refine sA [] rfl ?_; refine ev_arith rfl rfl rfl rfl rfl (by simp only [lowK, hiK]; omega) ?_; refine sA [] rfl ?_
      exact ev_next (n + 1) (by omega) ⟨by omega, by omega, fun m h1 h2 => by
        by_cases hmn : m = n
        · subst hmn; rw [← ha]; omega
        · exact hno2 m h1 (by omega), rfl⟩ ⟨rfl, rfl, rfl, trivial⟩
  · have hn3 : n = all.length + 1 := by omega
    subst hn3
    refine sA [] rfl ?_
    refine ev_store tabOk rfl rfl rfl rfl rfl rfl h.1 rfl (fun w3 hb3 hf3 => ?_)
    have hS3 : St w3 p v { S with raw := all } := ⟨hb3, h.2.1.fr hf3 (fun q hq e => h.2.2 (by rw [hq]; exact congrArg some e)), h.2.2⟩
    have hT3 := hT.fr hf3 (fun e => by have : 0 = p := e; omega) (fun e => by have : 1 = p := e; omega)
    refine sA [] rfl ?_
    refine ev_join1 (α := SV × List UInt8) (fun y => [(4, sv y.2)]) (fun y w' => FeedR S piece y.1 y.2 ∧ St w' p v y.1 ∧ Fr (one p) w1 w') ?_ ?_
    · refine mix_in mixed (fun w5 hf5 => ?_)
      have hS5 := hS3.fr0 hf5
      have hT5 := hT3.fr0 hf5
      have c5 : w5.cell? ⟨p, 1, none⟩ = some (sv all) := hS5.1.cell rfl
      refine mA rfl (by kernel_rfl) (by kernel_rfl) ?_
      have hst5 : ∀ t ∈ ({ S with raw := all } : SV).stops, t.length ≤ 9223372036854775806 := hst2
      repeat' (first
        | (refine ev_load rfl rfl tabOk rfl rfl (by assumption) ?_
           refine mix_op ?_
           try refine mix_run 3 tabOk rfl (by kernel_rfl) (by kernel_rfl) ?_)
        | (refine ev_call rfl rfl rfl (wHalf all _ (by omega) hT5) (fun q w6 hq => ?_)
           obtain ⟨rfl, hf6⟩ := hq
           have hS6 := hS5.fr0 hf6
           have c6 : w6.cell? ⟨p, 1, none⟩ = some (sv all) := hS6.1.cell rfl
           refine mix_op ?_)
        | (refine ev_call rfl rfl rfl (sBegun p v _ all _ (by assumption) (by omega) hst5 hsl) (fun q w7 hq => ?_)
           obtain ⟨⟨nb, rfl, hB⟩, rfl⟩ := hq
           refine mix_op ?_
           refine mix_run 3 tabOk rfl (by kernel_rfl) (by kernel_rfl) ?_)
        | (refine mix1 rfl rfl ?_)
        | (refine mix2 rfl rfl rfl ?_ ?_)
        | (refine mix3 rfl rfl rfl rfl ?_ ?_ ?_))
      all_goals
        have hnb := hB.le
        have hhl := hlf_le all
        obtain ⟨mx, hmx⟩ : ∃ mx, mx = max (hlf all) nb := ⟨_, rfl⟩
        have hml : mx ≤ all.length := by omega
        rw [show (if ((hlf all : Nat) : Int) < (nb : Int) then (nb : Int) else ((hlf all : Nat) : Int)) = ((mx : Nat) : Int) by split <;> omega]
        refine ev_arith rfl rfl rfl rfl rfl (by simp only [lowK, hiK]; omega) ?_
        obtain ⟨kk, hkk⟩ : ∃ kk, kk = all.length - mx := ⟨_, rfl⟩
        rw [show ((all.length : Nat) : Int) - (mx : Int) = ((kk : Nat) : Int) by omega]
        refine mix_op ?_
        refine mix1 rfl rfl ?_
        refine ev_call rfl rfl rfl (sLet p v _ kk _ hS6 (by simp only; omega) (by simp only; omega) (by simp only; omega) (hT5.fr0 hf6) hp0) (fun q w8 hq => ?_)
        obtain ⟨rfl, hS8, hf8⟩ := hq
        refine mix_op ?_
        refine mix_run 3 tabOk rfl (by kernel_rfl) (by kernel_rfl) ?_
        refine mix_out rfl ?_
        refine ev_out (SV.lets { S with raw := all } kk, clean (all.take kk)) ⟨?_, hS8, ((hf3.tr hf5).tr hf6).trans hf8 (fun _ _ e => e)⟩ ⟨rfl, trivial⟩
        unfold FeedR
        rw [if_neg hno, ← hall]
        refine .inr ⟨fun m h1 h2 => hno2 m h1 (by omega), nb, hB, by rw [← hmx, ← hkk], ?_⟩
        rw [← hmx, ← hkk]; rfl
    · rintro ⟨S', out⟩ w6 ⟨k1, k2, k3⟩
      refine sA [] rfl ?_
      exact ret1 (.inr rfl) rfl rfl ⟨⟨S', out, rfl, k1, k2⟩, k3⟩
end Go.Wk.YtpnhfkmgnkdleaaDoor
