/-
  Chapter 16: tables and rows: the usual bend, numbers one by one, gains, levels.
-/
import Derived.Test.YtfgllkflnkolhaaDoorShB
set_option linter.unusedVariables false
namespace Go.Wk.YtfgllkflnkolhaaDoor
open Go Go.Wk Go.Proofs

/-! ### rows that are written -/
abbrev R8 (w : World) (q : Nat) (xs : List Int8) : Prop := Blk w q (xs.map i8v) 56
theorem i8_one {xs : List Int8} : ∀ u ∈ xs.map i8v, u.oneCell' = true := fun u hu => by obtain ⟨x, _, rfl⟩ := List.mem_map.1 hu; rfl
theorem R8.set {xs : List Int8} {o : Nat} {x : Int8} : setV (xs.map i8v) o (i8v x) = (xs.set o x).map i8v := by rw [setV_eq, List.map_set]
theorem N8.of {w0 w : World} {q : Nat} {xs : List Int8} (h : R8 w q xs) (hq : w0.heap.size ≤ q) (hf : Fr no w0 w) (hl : xs.length ≤ 1000000000) : N8 w0 w (.slice (some ⟨q, 0, none⟩) xs.length xs.length) xs :=
  ⟨own_of_blk h (by rw [List.length_map, Nat.mul_one]) (by omega), fun g hg => by cases hg; exact hq, hf⟩
theorem made8 {w : World} {q n : Nat} {i : Int} (hi : i = n) (h : Blk w q (madeCells (Value.cells (.int .i8 0)) (i.toNat * 1)).toList 56) : R8 w q (List.replicate n 0) := by
  have e : (madeCells (Value.cells (.int .i8 0)) (i.toNat * 1)).toList = (List.replicate n (0 : Int8)).map i8v := by
    rw [hi, Int.toNat_natCast, Nat.mul_one, List.map_replicate]; exact toList_madeCells_one _ _
  rw [e] at h; exact h
theorem fill_set {l : List Int8} {i : Nat} {x : Int8} {n : Nat} (hl : l.length = i) (hi : i < n) : (l ++ List.replicate (n - i) 0).set i x = (l ++ [x]) ++ List.replicate (n - (i + 1)) 0 := by
  rw [List.set_append_right _ _ (by omega), hl, Nat.sub_self, show n - i = (n - (i + 1)) + 1 by omega, List.replicate_succ, List.set_cons_zero, List.append_assoc]; rfl

/-! ### maps of functions -/
abbrev intK (n : Int) : Value := .int .i64 n
theorem findNow_int (x : Int) : ∀ (ent : List MapEntry) (m : List (Int × Value)) (i : Nat), ent.map (fun e => (e.key, e.val)) = m.map (fun p => (intK p.1, p.2)) →
    Instr.findNow (.int .i64) (intK x) ent i = some (findM m x i)
  | [], m, i, h => by
    have : m = [] := by simpa using h
    subst this; rfl
  | e :: r, [], i, h => by simp at h
  | e :: r, p :: m, i, h => by
    simp only [List.map_cons, List.cons.injEq, Prod.mk.injEq] at h
    obtain ⟨⟨h1, h2⟩, h3⟩ := h
    have ih := findNow_int x r m (i + 1) h3
    have he : (x == p.1) = decide (p.1 = x) := by
      rw [beq_dec]
      exact decide_eq_decide.2 ⟨fun e => e.symm, fun e => e.symm⟩
    unfold Instr.findNow findM
    rw [h1]
    simp only [Instr.sameNow, he, if_true]
    by_cases hx : p.1 = x
    · rw [if_pos hx, decide_eq_true hx, ← h2]
    · rw [if_neg hx, decide_eq_false hx]; exact ih
theorem key_int {P : Program} {kt : TypeId} (h : P.underlying kt = some (.int .i64)) : KeyT P kt intK where
  chk := fun e x w => by
    show (Instr.checkKey e (9999 + 1) kt _).run P w = _
    unfold Instr.checkKey
    exact run_bind (run_underlying' h)
  find := fun x ent m w he => by
    unfold Instr.findKey
    refine (run_bind (run_underlying' h)).trans ?_
    rw [findNow_int x ent m 0 he]; rfl
theorem ev_lookup1 {P : Program} {fn : Func} {R : Ending → World → Prop} {n : Nat} {w : World} {tab : Tab} {k : List It} {env : Env} {L l : List Oper} {d : Nat} {ty : TypeId} {ps : String} {af : Array Edge} {g : Option (Nat × Bool)}
    {α : Type} [DecidableEq α] {κ : α → Value} {t kt e : TypeId} {x y : Operand} {b : Nat} {m : List (α × Value)} {q : α} {v : Value} (hT : TabOk P tab) (hg : guardOf L env g = some true) (hd : Nat.blt d n = true)
    (hx : ev env x = some (.map (some b))) (hm : Mp κ w b m) (hy : ev env y = some (κ q)) (hty : tyAt tab t = .map kt e) (hK : KeyT P kt κ) (hv : getM m q = some v)
    (hk : H P fn R n (.ops L l :: k) .normal ((d, v) :: env) w) :
    H P fn R n (.ops L (⟨some d, .lookup t x y false, ty, ps, af, g⟩ :: l) :: k) .normal env w := by
  obtain ⟨ent, c, h1, h2⟩ := hm
  have hr : (Instr.lookup t (.map (some b)) (κ q) false).run P w = .ok v w := by
    unfold Instr.lookup
    refine (run_bind (run_underlying' (ty_map hT hty))).trans ?_
    simp only []
    refine (run_bind (run_getObj h1 ⟨_, _, rfl⟩)).trans ?_
    simp only []
    refine (run_bind (a := ent) (w' := w) rfl).trans ?_
    refine (run_bind (hK.chk _ q w)).trans ?_
    rw [← findM_get m q 0] at hv
    have hf := hK.find q ent.toList m w h2
    cases hfm : findM m q 0 with
    | none => rw [hfm] at hv; cases hv
    | some r =>
      rw [hfm] at hf hv
      cases hv
      exact (run_bind hf).trans rfl
  exact ev_op hg hd _ w (fun a hA => by simp only [execOp, hA.ev hx, hA.ev hy]; exact run_bind hr) hk
theorem ev_insert {P : Program} {fn : Func} {R : Ending → World → Prop} {n : Nat} {w : World} {tab : Tab} {k : List It} {env : Env} {L l : List Oper} {ty : TypeId} {ps : String} {af : Array Edge} {g : Option (Nat × Bool)}
    {α : Type} [DecidableEq α] {κ : α → Value} {t kt e : TypeId} {x y z : Operand} {b : Nat} {m : List (α × Value)} {q : α} {v : Value} (hT : TabOk P tab) (hg : guardOf L env g = some true)
    (hx : ev env x = some (.map (some b))) (hm : Mp κ w b m) (hy : ev env y = some (κ q)) (hz : ev env z = some v) (hty : tyAt tab t = .map kt e) (hK : KeyT P kt κ) (hno : getM m q = none)
    (hk : ∀ w', Mp κ w' b (m ++ [(q, v)]) → Fr (fun c => c = b) w w' → H P fn R n (.ops L l :: k) .normal env w') :
    H P fn R n (.ops L (⟨none, .insert t x y z, ty, ps, af, g⟩ :: l) :: k) .normal env w := by
  have hlt := hm.lt
  obtain ⟨ent, c, h1, h2⟩ := hm
  have hf := hK.find q ent.toList m w h2
  have hfm : findM m q 0 = none := by
    have := findM_get m q 0
    rw [hno] at this
    simpa using this
  rw [hfm] at hf
  have hr : (Instr.mapUpdate t (.map (some b)) (κ q) v).run P w = .ok () { w with heap := w.heap.setIfInBounds b (.map (ent.push { key := κ q, val := v, born := c }) (c + 1)) } := by
    unfold Instr.mapUpdate
    refine (run_bind (run_underlying' (ty_map hT hty))).trans ?_
    simp only []
    refine (run_bind (run_getObj h1 ⟨_, _, rfl⟩)).trans ?_
    simp only []
    refine (run_bind (hK.chk _ q w)).trans ?_
    refine (run_bind hf).trans ?_
    simp only [setObj, Sem.run, h1]
  refine ev_do hg { w with heap := w.heap.setIfInBounds b (.map (ent.push { key := κ q, val := v, born := c }) (c + 1)) } (fun a hA => by simp only [execOp, hA.ev hx, hA.ev hy, hA.ev hz]; exact run_bind hr) (hk _ ⟨ent.push { key := κ q, val := v, born := c }, c + 1, ?_, ?_⟩ ⟨rfl, rfl, rfl, by simp, fun i hi hn => ?_⟩)
  · simp [hlt]
  · simp [h2]
  · have : b ≠ i := fun e => hn e.symm
    simp only
    rw [Array.getElem?_setIfInBounds_ne this]
abbrev fnV (f : Nat) : Value := .func (.func f) ⟨[]⟩ ⟨[]⟩
theorem ev_fnNil {P : Program} {fn : Func} {R : Ending → World → Prop} {n : Nat} {w : World} {k : List It} {env : Env} {L l : List Oper} {d : Nat} {ty t' : TypeId} {ps : String} {af : Array Edge} {g : Option (Nat × Bool)} {t : TypeId} {x y : Operand} {f : Nat} {us rs : Array TypeId} {vr : Bool}
    (hu : P.underlying t = some (.func us rs vr)) (hg : guardOf L env g = some true) (hd : Nat.blt d n = true) (hx : ev env x = some (fnV f)) (hy : ev env y = some .nilFunc)
    (hk : H P fn R n (.ops L l :: k) .normal ((d, .bool false) :: env) w) : H P fn R n (.ops L (⟨some d, .binOp .eql t x y t', ty, ps, af, g⟩ :: l) :: k) .normal env w := by
  refine ev_op hg hd (.bool false) w (fun a hA => ?_) hk
  simp only [execOp, hA.ev hx, hA.ev hy]
  refine run_bind (a := Value.bool false) (w' := w) ?_
  refine (run_bind (a := ()) (w' := w) rfl).trans ?_
  show Sem.run P (Op.equal t (fnV f) .nilFunc >>= fun b => pure (Value.bool b)) w = _
  refine run_bind (a := false) (w' := w) ?_
  rw [equal_eq, Op.equalIn]
  exact run_bind (run_underlying' hu)
theorem wBends (w : World) : CallsF Tryd.prog 67 [] w fun r w' => (∃ b, r = .map (some b) ∧ Mp intK w' b [(1, fnV 83), (2, fnV 84), (3, fnV 87)]) ∧ Fr no w w' := by
  have hK : KeyT Tryd.prog 3 intK := key_int Tryd.underlying3
  refine callsF Tryd.func67 rfl rfl (by decide) rfl ?_
  refine sA [] rfl ?_
  refine ev_makeMap intK rfl rfl (fun b w1 hb hM1 hf1 => ?_)
  refine ev_insert (q := (1 : Int)) tabOk rfl rfl hM1 rfl rfl rfl hK rfl (fun w2 hM2 hf2 => ?_)
  refine ev_insert (q := (2 : Int)) tabOk rfl rfl hM2 rfl rfl rfl hK rfl (fun w3 hM3 hf3 => ?_)
  refine ev_insert (q := (3 : Int)) tabOk rfl rfl hM3 rfl rfl rfl hK rfl (fun w4 hM4 hf4 => ?_)
  refine sA [] rfl ?_
  have o : ∀ {a c : World}, Fr no w a → Fr (fun c => c = b) a c → Fr no w c := fun h h2 => h.trans h2 fun z hz e => by have : z = b := e; omega
  exact ret1 (.inr rfl) rfl rfl ⟨⟨b, rfl, hM4⟩, o (o (o hf1 hf2) hf3) hf4⟩

/-- the usual bend, all of it -/
def s8 (i : Nat) : Int := IntKind.i8.wrap i
theorem s8_eq {i : Nat} (h : i < 256) : s8 i = if 127 < i then (i : Int) - 256 else i := by
  have key : ∀ n : Fin 256, s8 n.val = if 127 < n.val then (n.val : Int) - 256 else n.val := by decide +kernel
  exact key ⟨i, h⟩
theorem s8_bd {i : Nat} (h : i < 256) : -128 ≤ s8 i ∧ s8 i ≤ 127 := by
  rw [s8_eq h]; split <;> omega
def bendF (n : Nat) : List Int8 := (List.range n).map fun i => Int8.ofInt (bendQ (s8 i))
def BEND : List Int8 := bendF 256
theorem bendF_len (n : Nat) : (bendF n).length = n := by unfold bendF; simp
theorem bendF_succ (n : Nat) : bendF (n + 1) = bendF n ++ [Int8.ofInt (bendQ (s8 n))] := by unfold bendF; rw [List.range_succ, List.map_append]; rfl
theorem bend_v (i : Nat) : Value.int .i8 (bendQ (s8 i)) = i8v (Int8.ofInt (bendQ (s8 i))) := i8_of (by have := narrowQ_bd (roundQ (s8 i * softQ (s8 i)) 6); unfold bendQ; omega)
set_option maxHeartbeats 4000000 in
set_option maxRecDepth 20000 in
theorem wActTable (w : World) : CallsF Tryd.prog 49 [i64 2] w fun r w' => ∃ v, r = .tuple #[v, i64 0] ∧ N8 w w' v BEND := by
  have hK : KeyT Tryd.prog 3 intK := key_int Tryd.underlying3
  refine callsF Tryd.func49 rfl rfl (by decide) rfl ?_
  refine sA [] rfl ?_
  refine ev_call rfl rfl rfl (wBends _) (fun r w1 hr => ?_)
  obtain ⟨⟨b, rfl, hM1⟩, hf1⟩ := hr
  refine sA [] rfl ?_
  refine ev_lookup1 (q := (2 : Int)) tabOk rfl rfl rfl hM1 rfl rfl hK rfl ?_
  refine sA [] rfl ?_
  refine ev_fnNil Tryd.underlying135 rfl rfl rfl rfl ?_
  refine sA [] rfl ?_
  refine ev_make tabOk rfl rfl rfl inf56 rfl rfl (by omega) (by omega) (by omega) (fun q w2 hq hR hf2 => ?_)
  have hR : R8 w2 q (List.replicate 256 0) := made8 (n := 256) rfl hR
  have hqw : w.heap.size ≤ q := by have := hf1.size; omega
  have hF2 := hf1.tr hf2
  clear hf1 hf2 hM1
  obtain ⟨N, hN0⟩ : ∃ N, N = 256 := ⟨_, rfl⟩
  refine sA [] rfl ?_
  refine ev_loop (α := Nat) (fun y => [(4, fnV 84), (5, .slice (some ⟨q, 0, none⟩) 256 256), (14, i64 256), (15, i64 y)]) (fun y w' => y ≤ 256 ∧ R8 w' q (bendF y ++ List.replicate (256 - y) 0) ∧ Fr no w w') (fun y => N - y) 0 ⟨rfl, rfl, rfl, rfl, trivial⟩ ⟨Nat.zero_le _, hR, hF2⟩ ?_
  clear hR hF2
  rintro i w3 ⟨hi, hR, hF⟩
  have hbl := bendF_len i
  refine sC [] rfl ?_; refine sD [] rfl ?_
  refine ev_condD rfl (fun c => ?_) (fun c => ?_)
  · have hi : i < 256 := by omega
    have hsb := s8_bd hi
    refine sA [] rfl ?_
    refine ev_convW rfl rfl tabOk rfl rfl rfl ?_
    rw [show IntKind.i8.wrap (i : Int) = s8 i from rfl]
    refine ev_conv rfl rfl tabOk rfl rfl rfl (by simp only [lowK, hiK]; omega) ?_
    refine ev_callV rfl (fun t h => by cases h; rfl) rfl rfl (wBend2 (s8 i) _ (by omega)) (fun r w4 hr => ?_)
    obtain ⟨rfl, hf4⟩ := hr
    have hR4 : R8 w4 q _ := hR.fr0 hf4
    clear hR
    rw [bend_v]
    skip
    refine ev_indexAddr (len := 256) (i := i) rfl rfl tabOk rfl rfl rfl (by omega) (by omega) ?_
    refine ev_store tabOk rfl rfl rfl rfl rfl rfl hR4 (blt_of (by rw [List.length_map, List.length_append, List.length_replicate]; omega)) (fun w5 hR5 hf5 => ?_)
    rw [show 0 + (i : Int).toNat * 1 = i by omega, R8.set, fill_set hbl hi, ← bendF_succ] at hR5
    have hF5 : Fr no w w5 := (hF.tr hf4).trans hf5 fun z hz e => by have : z = q := e; omega
    refine sA [] rfl ?_; refine ev_arith rfl rfl rfl rfl rfl (by simp only [lowK, hiK]; omega) ?_; refine sA [] rfl ?_
    exact ev_next (i + 1) (by omega) ⟨hi, hR5, hF5⟩ ⟨rfl, rfl, rfl, by rw [show ((i + 1 : Nat) : Int) = (i : Int) + 1 by omega]; rfl, trivial⟩
  · have hi : i = 256 := by omega
    have hN : N8 w w3 (.slice (some ⟨q, 0, none⟩) 256 256) BEND := by
      rw [hi, Nat.sub_self, List.replicate_zero, List.append_nil] at hR
      have hN := N8.of hR hqw hF (by rw [bendF_len]; omega)
      rw [bendF_len] at hN; exact hN
    clear hR
    refine sA [] rfl ?_
    exact ret2 (.inr rfl) rfl rfl rfl ⟨_, rfl, hN⟩
set_option maxRecDepth 20000 in
theorem refActTable (w : World) : CallsF Tryd.prog 44 [i64 2] w fun r w' => ∃ v, r = .tuple #[v, i64 0] ∧ N8 w w' v BEND := by
  refine callsF Tryd.func44 rfl rfl (by decide) rfl ?_
  refine sA [] rfl ?_
  refine ev_buildSlice tabOk rfl rfl rfl inf56 rfl rfl rfl (fun _ h => by cases h) rfl (fun b w1 hb hb1 hf1 => ?_)
  have hb1 : R8 w1 b [] := hb1
  have hN1 : N8 w w1 (.slice (some ⟨b, 0, none⟩) 0 0) (bendF 0) := N8.of hb1 hb hf1 (Nat.zero_le _)
  obtain ⟨N, hN0⟩ : ∃ N, N = 256 := ⟨_, rfl⟩
  refine sA [] rfl ?_
  refine ev_loop (α := Nat × Value) (fun y => [(0, i64 2), (4, y.2), (5, i64 y.1)]) (fun y w' => y.1 ≤ 256 ∧ N8 w w' y.2 (bendF y.1)) (fun y => N - y.1) (0, _) ⟨rfl, rfl, rfl, trivial⟩ ⟨Nat.zero_le _, hN1⟩ ?_
  clear hN1 hb1
  rintro ⟨i, v⟩ w2 ⟨hi, hN⟩
  simp only at hi hN
  have hbl := bendF_len i
  refine sC [] rfl ?_; refine sD [] rfl ?_; refine sD [] rfl ?_
  refine ev_condD rfl (fun c => ?_) (fun c => ?_)
  · have hi : i < 256 := by omega
    have hs := s8_eq hi
    have hsb := s8_bd hi
    refine sC [] rfl ?_; refine sC [] rfl ?_; refine sC [] rfl ?_; refine sD [] rfl ?_; refine sD [] rfl ?_
    refine ev_cut (α := Unit) (fun y => [(0, i64 2), (4, v), (5, i64 i), (6, i64 (s8 i))]) (fun y w' => w' = w2) ?_ ?_
    · refine ev_condD rfl (fun d => ?_) (fun d => ?_)
      · rw [if_pos (by omega)] at hs
        refine sA [] rfl ?_; refine ev_arith rfl rfl rfl rfl rfl (by simp only [lowK, hiK]; omega) ?_; refine sA [] rfl ?_
        exact ev_out () rfl ⟨rfl, rfl, rfl, by rw [hs]; rfl, trivial⟩
      · rw [if_neg (by omega)] at hs
        refine sA [] rfl ?_
        exact ev_out () rfl ⟨rfl, rfl, rfl, by rw [hs]; rfl, trivial⟩
    · rintro ⟨⟩ w3 rfl
      refine sA [] rfl ?_
      refine ev_call rfl rfl rfl (refBent (s8 i) _ (by omega)) (fun r w4 hr => ?_)
      obtain ⟨rfl, rfl⟩ := hr
      rw [bend_v]
      refine ev_append1 tabOk rfl rfl (fun _ => rfl) rfl rfl inf56 rfl (by omega) (fun _ => rfl) rfl rfl (by simp [Value.cells]) (by simp [flatV, Value.cells, Value.oneCell']) rfl hN.1 (by omega) (fun v5 w5 g ho5 hf5 hn5 => ?_)
      have hN5 := hN.app (ys := [Int8.ofInt (bendQ (s8 i))]) ho5 hf5 hn5
      rw [← bendF_succ] at hN5
      refine sA [] rfl ?_; refine ev_arith rfl rfl rfl rfl rfl (by simp only [lowK, hiK]; omega) ?_; refine sA [] rfl ?_
      exact ev_next (i + 1, v5) (by simp only; omega) ⟨hi, hN5⟩ ⟨rfl, rfl, by rw [show ((i + 1 : Nat) : Int) = (i : Int) + 1 by omega]; rfl, trivial⟩
  · have hN : N8 w w2 v BEND := by rw [show i = 256 by omega] at hN; exact hN
    refine sA [] rfl ?_
    exact ret2 (.inr rfl) rfl rfl rfl ⟨v, rfl, hN⟩
end Go.Wk.YtfgllkflnkolhaaDoor
