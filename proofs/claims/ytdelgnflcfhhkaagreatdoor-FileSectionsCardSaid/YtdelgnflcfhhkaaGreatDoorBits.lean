/-
  The walk kit of this repo, part 12: appends that keep the old view of a row; stores into rows.
-/
import Derived.Test.YtdelgnflcfhhkaaGreatDoorEvs
set_option linter.unusedVariables false
set_option linter.unusedSimpArgs false
namespace Go.Wk
open Go

section
variable {P : Program} (w : World)
theorem run_appK {t ty e : TypeId} {i : TypeInfo} {z : Value} {size : Nat} (ht : P.underlying t = some (.slice e)) (hi : P.info? e = some i) (hz : i.zero = some z)
    (hsize : i.size = size) (hzs : z.cells.size = size) (hsz : 0 < size)
    {v : Value} {n : Nat} {xs : List Value} (hown : Own w e size v n xs)
    {A : Option Addr} {m c : Nat} {news : List Value} (hl : news.length = m * size) (hnews : Cs w A news) (h1 : ∀ u ∈ news, u.oneCell' = true)
    (hbytes : (n + m) * (i.bytes + 1) ≤ 140737488355328) :
    ∃ v' w', (Builtin.append_ #[t, t] ty #[v, .slice A m c]).run P w = .ok v' w' ∧ Own w' e size v' (n + m) (xs ++ news) ∧ Fr (fun b => v.ownBlock = some b) w w' ∧
      (v'.ownBlock = v.ownBlock ∨ v'.ownBlock = some w.heap.size) ∧ (∀ u nu xu, Own w e size u nu xu → nu ≤ n → Own w' e size u nu xu) := by
  have hb1 : (n + m) * i.bytes ≤ 140737488355328 := Nat.le_trans (Nat.mul_le_mul_left _ (by omega)) hbytes
  have hnm : n + m ≤ 140737488355328 := Nat.le_trans (Nat.le_mul_of_pos_right _ (by omega)) hbytes
  have h63 : n + m ≤ maxLen := by unfold maxLen; omega
  -- the source's address may be nil only if nothing comes
  have hA : m = 0 ∨ ∃ b o, A = some ⟨b, o, none⟩ := by
    rcases Nat.eq_zero_or_pos m with h | h
    · exact .inl h
    · right
      have hlt : 0 < news.length := by rw [hl]; exact Nat.mul_pos h hsz
      obtain ⟨b, o, e1, _⟩ := hnews 0 news[0] (by simp [hlt])
      exact ⟨b, o, e1⟩
  have hnews' : ∀ a, A = some a → ∀ j u, news[j]? = some u → w.cell? (a.add j) = some u := by
    intro a ha j u hj
    obtain ⟨b, o, e1, hc⟩ := hnews j u hj
    rw [ha] at e1; cases e1
    have : (⟨b, o, none⟩ : Addr).add j = ⟨b, o + j, none⟩ := by unfold Addr.add; split <;> simp_all
    rw [this]; exact hc
  have hlen : (xs ++ news).length = (n + m) * size := by rw [List.length_append, hown.1, hl, Nat.add_mul]
  subst hsize
  have grown : ∀ (old : Nat), old < n + m →
      Own (w.drew.alloc (.cells (xs.toArray ++ news.toArray ++ Builtin.zeroCells z.cells (grownCap w (n + m) old e - (n + m))) e)) e i.size
        (.slice (some ⟨w.heap.size, 0, none⟩) (n + m) (grownCap w (n + m) old e)) (n + m) (xs ++ news) := by
    intro old ho
    have hge := grownCap_ge w (n + m) old e
    have hcm : grownCap w (n + m) old e ≤ maxLen := grownCap_le_maxLen w (n + m) old e h63
    refine ⟨hlen, .inr ⟨w.heap.size, _, _, rfl, Nat.zero_le _, heap_alloc_new w.drew _, hge, hcm, ?_, ?_⟩⟩
    · simp only [Array.size_append, List.size_toArray, size_zeroCells, hzs, hown.1, hl, ← Nat.add_mul]
      congr 1
      omega
    · simp only [Array.toList_append, List.append_assoc]
      rw [← List.append_assoc, ← hlen]
      exact List.take_left
  have hfr : ∀ (S : Nat → Prop) (o : Obj), Fr S w (w.drew.alloc o) := fun S o => ((Fr.drew w).tr (Fr.alloc _ o)).mono fun _ _ x => x.elim
  rcases hown.2 with ⟨rfl, rfl⟩ | ⟨g, cap, cur, rfl, hbg, hg, hnc, hcm, hcs, htake⟩
  · have hx : xs = [] := List.eq_nil_of_length_eq_zero (by simpa using hown.1)
    subst hx
    rcases hA with rfl | ⟨b, o, rfl⟩
    · have hn : news = [] := List.eq_nil_of_length_eq_zero (by simpa using hl)
      subst hn
      refine ⟨.slice none 0 0, w, ?_, World.ownsRow_nil w 0 e i.size, Fr.refl _ _, .inl rfl, fun _ _ _ h _ => h⟩
      cases A <;> simp [Builtin.append_, run_underlying ht, sizeOf, typeInfo, hi, Builtin.lenOf, Builtin.firstCells, loadCells, loadCellsFrom]
    · by_cases hm : m = 0
      · subst hm
        have hn : news = [] := List.eq_nil_of_length_eq_zero (by simpa using hl)
        subst hn
        refine ⟨.slice none 0 0, w, ?_, World.ownsRow_nil w 0 e i.size, Fr.refl _ _, .inl rfl, fun _ _ _ h _ => h⟩
        simp [Builtin.append_, run_underlying ht, sizeOf, typeInfo, hi, Builtin.lenOf, Builtin.firstCells, loadCells, loadCellsFrom]
      · have hr := run_append_nil (P := P) w t ty e i z ht hi hz ⟨b, o, none⟩ m c news hl (hnews' _ rfl) (by omega) (by omega) (by have hb := hb1; simp only [Nat.zero_add] at hb; omega)
        have hgr := grown 0 (by omega)
        simp only [Nat.zero_add, List.nil_append, Array.empty_append] at hgr ⊢
        exact ⟨_, _, hr, hgr, hfr _ _, .inr rfl, fun _ _ _ h _ => h.fr0 (hfr _ _)⟩
  · rcases hA with rfl | ⟨b, o, rfl⟩
    · have hn : news = [] := List.eq_nil_of_length_eq_zero (by simpa using hl)
      subst hn
      refine ⟨_, w, ?_, by simpa using hown, Fr.refl _ _, .inl rfl, fun _ _ _ h _ => h⟩
      cases A <;> simp [Builtin.append_, run_underlying ht, sizeOf, typeInfo, hi, Builtin.lenOf, Builtin.firstCells, loadCells, loadCellsFrom, hnc, storeCells]
    · by_cases hroom : n + m ≤ cap
      · have hfit : n * i.size + news.length ≤ cur.size := by rw [hl, hcs, ← Nat.add_mul]; exact Nat.mul_le_mul_right _ hroom
        have hr := run_append_room (P := P) w t ty e i ht hi g n cap cur hg ⟨b, o, none⟩ m c news hl (hnews' _ rfl) h1 hroom hfit
        refine ⟨_, _, hr, ⟨hlen, .inr ⟨g, cap, _, rfl, hbg, setRow_heap w g cur _ e _ hg, hroom, hcm, ?_, ?_⟩⟩, Fr.of_grown ⟨rfl, rfl, rfl, by simp, fun k _ hk => setRow_other w g k _ (fun e => hk (by simp [Value.ownBlock, e]))⟩, .inl rfl, fun u nu xu hu hnu => ?_⟩
        · simp only [List.size_toArray, List.length_append, List.length_take, List.length_drop, Array.length_toList]
          omega
        · rw [htake, ← hlen]
          exact List.take_left
        · refine ⟨hu.1, ?_⟩
          rcases hu.2 with h2 | ⟨g2, cap2, cur2, rfl, hb2, hg2, hn2, hc2, hs2, ht2⟩
          · exact .inl h2
          · by_cases hgg : g2 = g
            · subst hgg
              have e2 : cur2 = cur := by rw [hg] at hg2; simp only [Option.some.injEq, Obj.cells.injEq] at hg2; exact hg2.1.symm
              subst e2
              refine .inr ⟨g2, cap2, _, rfl, hb2, setRow_heap w g2 cur2 _ e _ hg, hn2, hc2, ?_, ?_⟩
              · simp only [List.size_toArray, List.length_append, List.length_take, List.length_drop, Array.length_toList]
                omega
              · have hle : nu * i.size ≤ n * i.size := Nat.mul_le_mul_right _ hnu
                have hle2 : n * i.size ≤ cur2.size := by omega
                simp only [List.append_assoc]
                rw [List.take_append_of_le_length (by rw [List.length_take, Array.length_toList]; omega), List.take_take, Nat.min_eq_left hle]
                exact ht2
            · exact .inr ⟨g2, cap2, cur2, rfl, hb2, by rw [setRow_other w g g2 _ hgg]; exact hg2, hn2, hc2, hs2, ht2⟩
      · have holds : ∀ j u, xs[j]? = some u → w.cell? ((⟨g, 0, none⟩ : Addr).add j) = some u := hown.cells (g := g) rfl
        have hr := run_append_grow (P := P) w t ty e i z ht hi hz ⟨g, 0, none⟩ n cap xs hown.1 holds ⟨b, o, none⟩ m c news hl (hnews' _ rfl) (by omega) (by omega) (growslice_fits (by omega) hb1)
        exact ⟨_, _, hr, grown cap (by omega), hfr _ _, .inr rfl, fun _ _ _ h _ => h.fr0 (hfr _ _)⟩

end
section
variable {P : Program} {fn : Func} {R : Ending → World → Prop} {n : Nat} {w : World}
/-- append of what a slice holds -/
theorem ev_appendK {k : List It} {env : Env} {L l : List Oper} {d : Nat} {x y : Operand} {t : TypeId} {ty : TypeId} {ps : String} {af : Array Edge} {g : Option (Nat × Bool)} {tab : Tab} {e sz : Nat} {z : Value} {b : Nat} {v : Value} {nn : Nat} {xs : List Value} {A : Option Addr} {m c : Nat} {news : List Value}
    (hT : TabOk P tab) (hg : guardOf L env g = some true) (hd : Nat.blt d n = true) (hty : tyAt tab t = .slice e sz) (hz : Inf P e z sz b) (hzs : z.cells.size = sz) (hsz : 0 < sz)
    (hx : ev env x = some v) (hy : ev env y = some (.slice A m c)) (hown : Own w e sz v nn xs) (hc : Cs w A news) (hl : news.length = m * sz) (h1 : ∀ u ∈ news, u.oneCell' = true) (hbytes : (nn + m) * (b + 1) ≤ 140737488355328)
    (hk : ∀ v' w', Own w' e sz v' (nn + m) (xs ++ news) → Fr (fun q => v.ownBlock = some q) w w' → NB w v v' → (∀ u nu xu, Own w e sz u nu xu → nu ≤ nn → Own w' e sz u nu xu) → H P fn R n (.ops L l :: k) .normal ((d, v') :: env) w') :
    H P fn R n (.ops L (⟨some d, .call ⟨.builtin .append, ⟨[x, y]⟩, ⟨[t, t]⟩⟩, ty, ps, af, g⟩ :: l) :: k) .normal env w := by
  obtain ⟨inf, hi, hzv, hs, hby⟩ := hz
  obtain ⟨ht, h2⟩ := ty_slice hT hty
  obtain ⟨v', w', hr, h3, h4, h5, h6⟩ := run_appK (P := P) w (ty := ty) ht hi hzv hs hzs hsz hown hl hc h1 (by rw [hby]; exact hbytes)
  exact ev_op hg hd v' w' (fun a hA => by
    simp only [execOp, resolve, List.map_toArray, List.map, hA.ev hx, hA.ev hy]
    exact run_bind hr) (hk v' w' h3 h4 (NB.of h5) h6)

/-- append of a literal: the literal's row, then the append -/
theorem ev_append1K {k : List It} {env : Env} {L l : List Oper} {d1 d2 : Nat} {x : Operand} {t len : Nat} {parts : List (Nat × Operand)} {ty1 ty2 : TypeId} {ps1 ps2 : String} {af1 af2 : Array Edge} {g1 g2 : Option (Nat × Bool)} {tab : Tab} {e sz : Nat} {z : Value} {b : Nat} {v : Value} {nn : Nat} {xs vs : List Value}
    (hT : TabOk P tab) (hg1 : guardOf L env g1 = some true) (hd1 : Nat.blt d1 n = true) (hg2 : ∀ q, guardOf L ((d1, .slice (some ⟨q, 0, none⟩) len len) :: env) g2 = some true) (hd2 : Nat.blt d2 n = true)
    (hty : tyAt tab t = .slice e sz) (hz : Inf P e z sz b) (hzs : z.cells.size = sz) (hsz : 0 < sz) (hx : ∀ q, ev ((d1, .slice (some ⟨q, 0, none⟩) len len) :: env) x = some v)
    (hvs : evParts env 0 parts = some vs) (hl : vs.length = len) (hszv : ∀ v ∈ vs, v.cells.size = sz) (h1 : ∀ u ∈ flatV vs, u.oneCell' = true) (hsmall : Nat.ble (len * sz) 16777216 = true)
    (hown : Own w e sz v nn xs) (hbytes : (nn + len) * (b + 1) ≤ 140737488355328)
    (hk : ∀ v' w' q, Own w' e sz v' (nn + len) (xs ++ flatV vs) → Fr (fun q => v.ownBlock = some q) w w' → NB w v v' → (∀ u nu xu, Own w e sz u nu xu → nu ≤ nn → Own w' e sz u nu xu) → H P fn R n (.ops L l :: k) .normal ((d2, v') :: (d1, .slice (some ⟨q, 0, none⟩) len len) :: env) w') :
    H P fn R n (.ops L (⟨some d1, .buildSlice t len ⟨parts⟩, ty1, ps1, af1, g1⟩ :: ⟨some d2, .call ⟨.builtin .append, ⟨[x, .tmp d1]⟩, ⟨[t, t]⟩⟩, ty2, ps2, af2, g2⟩ :: l) :: k) .normal env w := by
  refine ev_buildSlice hT hg1 hd1 hty hz hzs hvs hl hszv hsmall ?_
  intro q w1 hq hb hf
  have hlen : (flatV vs).length = len * sz := by
    rw [← hl]
    clear hvs h1 hk hb hl
    induction vs with
    | nil => simp [flatV]
    | cons u r ih =>
      have e1 := ih (fun v hv => hszv v (by simp [hv]))
      have e2 : u.cells.size = sz := hszv u (by simp)
      simp only [flatV, List.flatMap_cons, List.length_append, Array.length_toList, e2, List.length_cons] at e1 ⊢
      rw [e1, Nat.add_mul]; omega
  refine ev_appendK (z := z) (b := b) (xs := xs) (A := some ⟨q, 0, none⟩) (m := len) (c := len) (news := flatV vs) hT (hg2 q) hd2 hty hz hzs hsz (hx q) (by simp [ev, look_cons]) (hown.fr0 hf) (Cs.of_blk hb) hlen h1 hbytes ?_
  intro v' w2 ho hf2 hnb hK
  refine hk v' w2 q ho (hf.tr0 hf2) (fun g hg => ?_) (fun u nu xu hu hnu => hK u nu xu (hu.fr0 hf) hnu)
  rcases hnb g hg with h | h
  · exact .inl h
  · exact .inr (Nat.le_trans hf.size h)

/-- a store into a row of one's own -/
theorem ev_storeRow {k : List It} {env : Env} {L l : List Oper} {t : TypeId} {x y : Operand} {ty : TypeId} {ps : String} {af : Array Edge} {g : Option (Nat × Bool)} {tab : Tab} {b o : Nat} {v : Value} {e : TypeId} {r : Value} {nn : Nat} {xs : List Value}
    (hT : TabOk P tab) (hg : guardOf L env g = some true) (hx : ev env x = some (.pointer (some ⟨b, o, none⟩))) (hy : ev env y = some v) (hag : aggT (tyAt tab t) = some false) (hs : szAt tab t = 1) (hv : v.oneCell' = true)
    (hr : Own w e 1 r nn xs) (hb : r.ownBlock = some b) (ho : o < nn)
    (hk : ∀ w', Own w' e 1 r nn (xs.set o v) → Fr (fun c => c = b) w w' → H P fn R n (.ops L l :: k) .normal env w') :
    H P fn R n (.ops L (⟨none, .store t x y, ty, ps, af, g⟩ :: l) :: k) .normal env w := by
  rcases hr.2 with ⟨rfl, _⟩ | ⟨q, cap, cur, rfl, hbq, hq, hnc, hcm, hcs, ht⟩
  · cases hb
  · simp only [Value.ownBlock, Option.some.injEq] at hb
    subst hb
    have hB : Blk w q cur.toList e := hq
    have hlen : cur.toList.length = cap := by simp [hcs]
    refine ev_store hT hg hx hy hag hs hv hB (blt_of (by omega)) (fun w' hB' hf => hk w' ⟨by rw [List.length_set]; exact hr.1, .inr ⟨q, cap, _, rfl, hbq, hB', hnc, hcm, ?_, ?_⟩⟩ hf)
    · rw [setV_eq]; simp [hcs]
    · rw [setV_eq]
      simp only [Nat.mul_one] at ht ⊢
      rw [List.take_set, ht]
end
end Go.Wk
namespace Go.Wk
open Go
section
variable {P : Program} {fn : Func} {R : Ending → World → Prop} {n : Nat} {w : World}
theorem y_quoT {C : World → Prop} {env : Env} {d : Option Nat} {ty : TypeId} {ps : String} {af : Array Edge} {g : Option (Nat × Bool)} {t t' : TypeId} {x y : Operand} {kd : IntKind} {a b : Int} (hx : ev env x = some (.int kd a)) (hy : ev env y = some (.int kd b)) (hb : b ≠ 0) (h : lowK kd ≤ a.tdiv b ∧ a.tdiv b ≤ hiK kd) :
    Yv P n env C ⟨d, .binOp .quo t x y t', ty, ps, af, g⟩ (.int kd (a.tdiv b)) := fun c hA w hw => by
  simp only [execOp, hA.ev hx, hA.ev hy]
  refine run_bind (a := Value.int kd (a.tdiv b)) (w' := w) ?_
  refine (run_bind (a := ()) (w' := w) guard_int).trans ?_
  simp [binOp, Op.intDiv, hb, wrapK h]
theorem ev_quoT {k : List It} {env : Env} {L l : List Oper} {d : Nat} {ty : TypeId} {ps : String} {af : Array Edge} {g : Option (Nat × Bool)} {t t' : TypeId} {x y : Operand} {kd : IntKind} {a b : Int} (hg : guardOf L env g = some true) (hd : Nat.blt d n = true) (hx : ev env x = some (.int kd a)) (hy : ev env y = some (.int kd b)) (hb : b ≠ 0) (h : lowK kd ≤ a.tdiv b ∧ a.tdiv b ≤ hiK kd)
    (hk : H P fn R n (.ops L l :: k) .normal ((d, .int kd (a.tdiv b)) :: env) w) : H P fn R n (.ops L (⟨some d, .binOp .quo t x y t', ty, ps, af, g⟩ :: l) :: k) .normal env w :=
  ev_y hg hd (y_quoT hx hy hb h) hk
end
end Go.Wk
namespace Go.Wk
open Go
theorem wrap_u8 (x : Int) : IntKind.u8.wrap x = x % 256 := by simp [IntKind.wrap, IntKind.signed, IntKind.bits]
theorem bits_xor32 {a b : Nat} (ha : a < 2 ^ 32) (hb : b < 2 ^ 32) : bits .xor .u32 (a : Int) (b : Int) = ((a ^^^ b : Nat) : Int) := by
  show IntKind.u32.wrap (((BitVec.ofInt 32 (a : Int) ^^^ BitVec.ofInt 32 (b : Int) : BitVec 32).toNat : Nat) : Int) = _
  have h1 : (BitVec.ofInt 32 (a : Int)).toNat = a := by simp; omega
  have h2 : (BitVec.ofInt 32 (b : Int)).toNat = b := by simp; omega
  rw [BitVec.toNat_xor, h1, h2]
  have h3 : a ^^^ b < 2 ^ 32 := Nat.xor_lt_two_pow ha hb
  exact wrapK (k := .u32) (by simp only [lowK, hiK]; omega)
theorem bits_and32 {a b : Nat} (ha : a < 2 ^ 32) (hb : b < 2 ^ 32) : bits .and .u32 (a : Int) (b : Int) = ((a &&& b : Nat) : Int) := by
  show IntKind.u32.wrap (((BitVec.ofInt 32 (a : Int) &&& BitVec.ofInt 32 (b : Int) : BitVec 32).toNat : Nat) : Int) = _
  have h1 : (BitVec.ofInt 32 (a : Int)).toNat = a := by simp; omega
  have h2 : (BitVec.ofInt 32 (b : Int)).toNat = b := by simp; omega
  rw [BitVec.toNat_and, h1, h2]
  have h3 : a &&& b < 2 ^ 32 := Nat.and_lt_two_pow a hb
  exact wrapK (k := .u32) (by simp only [lowK, hiK]; omega)
theorem bits_and64 {a b : Nat} (ha : a < 2 ^ 64) (hb : b < 2 ^ 64) : bits .and .u64 (a : Int) (b : Int) = ((a &&& b : Nat) : Int) := by
  show IntKind.u64.wrap (((BitVec.ofInt 64 (a : Int) &&& BitVec.ofInt 64 (b : Int) : BitVec 64).toNat : Nat) : Int) = _
  have h1 : (BitVec.ofInt 64 (a : Int)).toNat = a := by simp; omega
  have h2 : (BitVec.ofInt 64 (b : Int)).toNat = b := by simp; omega
  rw [BitVec.toNat_and, h1, h2]
  have h3 : a &&& b < 2 ^ 64 := Nat.and_lt_two_pow a hb
  exact wrapK (k := .u64) (by simp only [lowK, hiK]; omega)
theorem bits_xor64 {a b : Nat} (ha : a < 2 ^ 64) (hb : b < 2 ^ 64) : bits .xor .u64 (a : Int) (b : Int) = ((a ^^^ b : Nat) : Int) := by
  show IntKind.u64.wrap (((BitVec.ofInt 64 (a : Int) ^^^ BitVec.ofInt 64 (b : Int) : BitVec 64).toNat : Nat) : Int) = _
  have h1 : (BitVec.ofInt 64 (a : Int)).toNat = a := by simp; omega
  have h2 : (BitVec.ofInt 64 (b : Int)).toNat = b := by simp; omega
  rw [BitVec.toNat_xor, h1, h2]
  have h3 : a ^^^ b < 2 ^ 64 := Nat.xor_lt_two_pow ha hb
  exact wrapK (k := .u64) (by simp only [lowK, hiK]; omega)
theorem bits_or8 {a b : Nat} (ha : a < 2 ^ 8) (hb : b < 2 ^ 8) : bits .or .u8 (a : Int) (b : Int) = ((a ||| b : Nat) : Int) := by
  show IntKind.u8.wrap (((BitVec.ofInt 8 (a : Int) ||| BitVec.ofInt 8 (b : Int) : BitVec 8).toNat : Nat) : Int) = _
  have h1 : (BitVec.ofInt 8 (a : Int)).toNat = a := by simp; omega
  have h2 : (BitVec.ofInt 8 (b : Int)).toNat = b := by simp; omega
  rw [BitVec.toNat_or, h1, h2]
  have h3 : a ||| b < 2 ^ 8 := Nat.or_lt_two_pow ha hb
  exact wrapK (k := .u8) (by simp only [lowK, hiK]; omega)
theorem bits_and8 {a b : Nat} (ha : a < 2 ^ 8) (hb : b < 2 ^ 8) : bits .and .u8 (a : Int) (b : Int) = ((a &&& b : Nat) : Int) := by
  show IntKind.u8.wrap (((BitVec.ofInt 8 (a : Int) &&& BitVec.ofInt 8 (b : Int) : BitVec 8).toNat : Nat) : Int) = _
  have h1 : (BitVec.ofInt 8 (a : Int)).toNat = a := by simp; omega
  have h2 : (BitVec.ofInt 8 (b : Int)).toNat = b := by simp; omega
  rw [BitVec.toNat_and, h1, h2]
  have h3 : a &&& b < 2 ^ 8 := Nat.and_lt_two_pow a hb
  exact wrapK (k := .u8) (by simp only [lowK, hiK]; omega)
theorem or128 {a : Nat} (h : a < 256) : a ||| 128 = a % 128 + 128 := by
  have : ∀ x : Fin 256, x.val ||| 128 = x.val % 128 + 128 := by decide +kernel
  exact this ⟨a, h⟩
theorem and1 (a : Nat) : a &&& 1 = a % 2 := Nat.and_one_is_mod a
theorem and127 (a : Nat) : a &&& 127 = a % 128 := Nat.and_two_pow_sub_one_eq_mod a 7
theorem and15 (a : Nat) : a &&& 15 = a % 16 := Nat.and_two_pow_sub_one_eq_mod a 4

theorem bits_xor8 {a b : Nat} (ha : a < 2 ^ 8) (hb : b < 2 ^ 8) : bits .xor .u8 (a : Int) (b : Int) = ((a ^^^ b : Nat) : Int) := by
  show IntKind.u8.wrap (((BitVec.ofInt 8 (a : Int) ^^^ BitVec.ofInt 8 (b : Int) : BitVec 8).toNat : Nat) : Int) = _
  have h1 : (BitVec.ofInt 8 (a : Int)).toNat = a := by simp; omega
  have h2 : (BitVec.ofInt 8 (b : Int)).toNat = b := by simp; omega
  rw [BitVec.toNat_xor, h1, h2]
  have h3 : a ^^^ b < 2 ^ 8 := Nat.xor_lt_two_pow ha hb
  exact wrapK (k := .u8) (by simp only [lowK, hiK]; omega)

theorem bits_or_nat {a b : Nat} (ha : a < 2 ^ 64) (hb : b < 2 ^ 64) : bits .or .u64 (a : Int) (b : Int) = ((a ||| b : Nat) : Int) := by
  show IntKind.u64.wrap (((BitVec.ofInt 64 (a : Int) ||| BitVec.ofInt 64 (b : Int) : BitVec 64).toNat : Nat) : Int) = _
  have h1 : (BitVec.ofInt 64 (a : Int)).toNat = a := by simp; omega
  have h2 : (BitVec.ofInt 64 (b : Int)).toNat = b := by simp; omega
  rw [BitVec.toNat_or, h1, h2]
  have h3 : a ||| b < 2 ^ 64 := Nat.or_lt_two_pow ha hb
  exact wrapK (k := .u64) (by simp only [lowK, hiK]; omega)
end Go.Wk
