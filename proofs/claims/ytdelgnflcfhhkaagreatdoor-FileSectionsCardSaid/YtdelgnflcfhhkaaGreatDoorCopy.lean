/-
  The walk kit of this repo, part 16: capacities.
-/
import Derived.Test.YtdelgnflcfhhkaaGreatDoorEvs
import Derived.Laws.CopyRow
import Derived.Test.YtdelgnflcfhhkaaGreatDoorEv
set_option linter.unusedVariables false
set_option linter.unusedSimpArgs false
namespace Go.Wk
open Go Go.Lib
def capV : Value → Nat
  | .slice _ _ c => c
  | _ => 0
section
variable {P : Program} (w : World)
theorem run_app_strC {t u ty e : TypeId} {i : TypeInfo} (ht : P.underlying t = some (.slice e)) (hu : P.underlying u = some .string) (hi : P.info? e = some i) (hz : i.zero = some (.int .u8 0))
    (hsize : i.size = 1) (hby : i.bytes = 1)
    {v : Value} {n : Nat} {xs : List Value} (hown : Own w e 1 v n xs) (s : List UInt8)
    (hbytes : n + s.length ≤ 140737488355328) :
    ∃ v' w', (Builtin.append_ #[t, u] ty #[v, .string (sOf s)]).run P w = .ok v' w' ∧ Own w' e 1 v' (n + s.length) (xs ++ s.map bv) ∧ Fr (fun b => v.ownBlock = some b) w w' ∧
      (v'.ownBlock = v.ownBlock ∨ v'.ownBlock = some w.heap.size) ∧ capV v ≤ capV v' := by
  have hsz : (sOf s).size = s.length := rfl
  have hcells : strCells (sOf s) = s.map bv := by simp [strCells]
  have h63 : n + s.length ≤ maxLen := by unfold maxLen; omega
  have hxl : xs.length = n := by simpa using hown.1
  have hlen : (xs ++ s.map bv).length = (n + s.length) * 1 := by rw [List.length_append, hxl, List.length_map, Nat.mul_one]
  have grown : ∀ (old : Nat), old < n + s.length →
      Own (w.drew.alloc (.cells (xs.toArray ++ (s.map bv).toArray ++ Builtin.zeroCells (Value.int .u8 0).cells (grownCap w (n + s.length) old e - (n + s.length))) e)) e 1
        (.slice (some ⟨w.heap.size, 0, none⟩) (n + s.length) (grownCap w (n + s.length) old e)) (n + s.length) (xs ++ s.map bv) := by
    intro old ho
    have hge := grownCap_ge w (n + s.length) old e
    have hcm : grownCap w (n + s.length) old e ≤ maxLen := grownCap_le_maxLen w (n + s.length) old e h63
    refine ⟨hlen, .inr ⟨w.heap.size, _, _, rfl, Nat.zero_le _, heap_alloc_new w.drew _, hge, hcm, ?_, ?_⟩⟩
    · have hz1 : (Value.int IntKind.u8 0).cells.size = 1 := rfl
      simp only [Array.size_append, List.size_toArray, size_zeroCells, hz1, hxl, List.length_map]
      omega
    · simp only [Array.toList_append, List.append_assoc]
      rw [← List.append_assoc, ← hlen]
      exact List.take_left
  have hfr : ∀ (S : Nat → Prop) (o : Obj), Fr S w (w.drew.alloc o) := fun S o => ((Fr.drew w).tr (Fr.alloc _ o)).mono fun _ _ x => x.elim
  rcases hown.2 with ⟨rfl, rfl⟩ | ⟨g, cap, cur, rfl, hbg, hg, hnc, hcm, hcs, htake⟩
  · have hx : xs = [] := List.eq_nil_of_length_eq_zero hxl
    subst hx
    by_cases hm : s.length = 0
    · have hn : s = [] := List.eq_nil_of_length_eq_zero hm
      subst hn
      refine ⟨.slice none 0 0, w, ?_, World.ownsRow_nil w 0 e 1, Fr.refl _ _, .inl rfl, Nat.le_refl _⟩
      simp [Builtin.append_, run_underlying ht, run_underlying hu, sizeOf, typeInfo, hi, Builtin.lenOf, Builtin.firstCells, ByteArray.size]
    · have hr := run_append_nil_string (P := P) w t u ty e i (.int .u8 0) ht hu hi hz (sOf s) (by rw [hsz]; omega) (by rw [hsz]; omega) (by rw [hsz, hby]; omega)
      have hgr := grown 0 (by omega)
      simp only [Nat.zero_add, List.nil_append, Array.empty_append] at hgr ⊢
      simp only [hsz] at hr
      refine ⟨_, _, hr, ?_, hfr _ _, .inr rfl, Nat.zero_le _⟩
      have e1 : Array.map (fun b : UInt8 => Value.int IntKind.u8 (b.toNat : Int)) (sOf s).data = (s.map bv).toArray := by simp
      rw [e1]; exact hgr
  · by_cases hroom : n + s.length ≤ cap
    · have hfit : n + (sOf s).size ≤ cur.size := by rw [hcs, hsz]; omega
      have hr := run_append_room_string (P := P) w t u ty e i ht hu hi hsize g n cap cur hg (sOf s) (by rw [hsz]; exact hroom) hfit
      rw [hcells] at hr
      simp only [hsz] at hr
      refine ⟨_, _, hr, ⟨hlen, .inr ⟨g, cap, _, rfl, hbg, setRow_heap w g cur _ e _ hg, hroom, hcm, ?_, ?_⟩⟩, Fr.of_grown ⟨rfl, rfl, rfl, by simp, fun k _ hk => setRow_other w g k _ (fun e => hk (by simp [Value.ownBlock, e]))⟩, .inl rfl, Nat.le_refl _⟩
      · simp only [List.size_toArray, List.length_append, List.length_take, List.length_drop, Array.length_toList, List.length_map]
        rw [hsz] at hfit
        omega
      · have : cur.toList.take n = xs := by simpa using htake
        rw [this, ← hlen]
        exact List.take_left
    · have holds : ∀ j u, xs[j]? = some u → w.cell? ((⟨g, 0, none⟩ : Addr).add j) = some u := hown.cells (g := g) rfl
      have hr := run_append_grow_string (P := P) w t u ty e i (.int .u8 0) ht hu hi hz ⟨g, 0, none⟩ n cap xs (by rw [hsize]; exact hown.1) holds (sOf s) (by rw [hsz]; omega) (by rw [hsz]; omega) (by rw [hsz]; exact growslice_fits (by omega) (by rw [hby]; omega))
      rw [hcells] at hr
      simp only [hsz] at hr
      exact ⟨_, _, hr, grown cap (by omega), hfr _ _, .inr rfl, by have := grownCap_ge w (n + s.length) cap e; simp only [capV]; omega⟩
end
section
variable {P : Program} {fn : Func} {R : Ending → World → Prop} {n : Nat} {w : World} {C : World → Prop} {Q : Act → Prop} {tab : Tab} {k : List It} {env : Env} {L l : List Oper} {d : Nat} {ty : TypeId} {ps : String} {af : Array Edge} {g : Option (Nat × Bool)}
theorem y_cap {dd : Option Nat} {t e sz : TypeId} {x : Operand} {A : Option Addr} {len cap : Nat} (hT : TabOk P tab) (hx : ev env x = some (.slice A len cap)) (hty : tyAt tab t = .slice e sz) :
    Yv P n env C ⟨dd, .call ⟨.builtin .cap, ⟨[x]⟩, ⟨[t]⟩⟩, ty, ps, af, g⟩ (.int .i64 cap) := fun a hA w hw => by
  have h1 : (Builtin.cap_ #[t] ty #[.slice A len cap]).run P w = .ok (.int .i64 cap) w := run_bind (run_underlying' (ty_slice hT hty).1)
  simp only [execOp, resolve, List.map_toArray, List.map, hA.ev hx]
  exact run_bind h1
theorem ev_cap {t e sz : TypeId} {x : Operand} {A : Option Addr} {len cap : Nat} (hg : guardOf L env g = some true) (hd : Nat.blt d n = true) (hT : TabOk P tab) (hx : ev env x = some (.slice A len cap)) (hty : tyAt tab t = .slice e sz)
    (hk : H P fn R n (.ops L l :: k) .normal ((d, .int .i64 cap) :: env) w) : H P fn R n (.ops L (⟨some d, .call ⟨.builtin .cap, ⟨[x]⟩, ⟨[t]⟩⟩, ty, ps, af, g⟩ :: l) :: k) .normal env w :=
  ev_y hg hd (y_cap hT hx hty) hk
theorem q_cap {t e sz : TypeId} {x : Operand} {A : Option Addr} {len cap : Nat} (hg : guardOf L env g = some true) (hd : Nat.blt d n = true) (hT : TabOk P tab) (hx : ev env x = some (.slice A len cap)) (hty : tyAt tab t = .slice e sz)
    (hk : HQ P C n Q L l ((d, .int .i64 cap) :: env)) : HQ P C n Q L (⟨some d, .call ⟨.builtin .cap, ⟨[x]⟩, ⟨[t]⟩⟩, ty, ps, af, g⟩ :: l) env :=
  q_y hg hd (y_cap hT hx hty) hk
/-- append of a string's bytes: the room never shrinks -/
theorem ev_appendStrC {x y : Operand} {t u : TypeId} {e : Nat} {v : Value} {nn : Nat} {xs : List Value} {s : List UInt8}
    (hT : TabOk P tab) (hg : guardOf L env g = some true) (hd : Nat.blt d n = true) (hty : tyAt tab t = .slice e 1) (hu : tyAt tab u = .str) (hz : Inf P e (.int .u8 0) 1 1)
    (hx : ev env x = some v) (hy : ev env y = some (.string (sOf s))) (hown : Own w e 1 v nn xs) (hbytes : nn + s.length ≤ 140737488355328)
    (hk : ∀ v' w', Own w' e 1 v' (nn + s.length) (xs ++ s.map bv) → Fr (fun q => v.ownBlock = some q) w w' → NB w v v' → capV v ≤ capV v' → H P fn R n (.ops L l :: k) .normal ((d, v') :: env) w') :
    H P fn R n (.ops L (⟨some d, .call ⟨.builtin .append, ⟨[x, y]⟩, ⟨[t, u]⟩⟩, ty, ps, af, g⟩ :: l) :: k) .normal env w := by
  obtain ⟨inf, hi, hzv, hs, hby⟩ := hz
  obtain ⟨ht, h2⟩ := ty_slice hT hty
  obtain ⟨v', w', hr, h3, h4, h5, h6⟩ := run_app_strC (P := P) w (ty := ty) ht (ty_str hT hu) hi hzv hs hby hown s hbytes
  exact ev_op hg hd v' w' (fun a hA => by
    simp only [execOp, resolve, List.map_toArray, List.map, hA.ev hx, hA.ev hy]
    exact run_bind hr) (hk v' w' h3 h4 (NB.of h5) h6)
end
end Go.Wk
namespace Go.Wk
open Go
section
variable {P : Program} {n : Nat} {w : World} {Q : Act → Prop} {tab : Tab} {env : Env} {L l : List Oper} {d : Nat} {ty : TypeId} {ps : String} {af : Array Edge} {g : Option (Nat × Bool)}
theorem q_loadB {t : TypeId} {x : Operand} {b o : Nat} {cs : List Value} {e : TypeId} {v : Value} (hg : guardOf L env g = some true) (hd : Nat.blt d n = true) (hT : TabOk P tab) (hx : ev env x = some (.pointer (some ⟨b, o, none⟩))) (hag : aggT (tyAt tab t) = some false) (hb : Blk w b cs e) (hv : nthV cs o = some v)
    (hk : HQ P (Fr no w) n Q L l ((d, v) :: env)) : HQ P (Fr no w) n Q L (⟨some d, .load t x, ty, ps, af, g⟩ :: l) env :=
  q_load hg hd hT hx hag (fun w' hf => (hb.fr0 hf).cell hv) hk
theorem q_loadAggB {t : TypeId} {x : Operand} {b : Nat} {cs : List Value} {e : TypeId} (hg : guardOf L env g = some true) (hd : Nat.blt d n = true) (hT : TabOk P tab) (hx : ev env x = some (.pointer (some ⟨b, 0, none⟩))) (hag : aggT (tyAt tab t) = some true) (hb : Blk w b cs e) (hs : szAt tab t = cs.length)
    (hk : HQ P (Fr no w) n Q L l ((d, .agg ⟨cs⟩) :: env)) : HQ P (Fr no w) n Q L (⟨some d, .load t x, ty, ps, af, g⟩ :: l) env :=
  q_loadAgg hg hd hT hx hag hs (fun w' hf => Cs.of_blk (hb.fr0 hf)) hk
end
end Go.Wk
set_option linter.unusedSimpArgs false
namespace Go.Wk
open Go Go.Lib
section
variable {P : Program} {fn : Func} {R : Ending → World → Prop} {n : Nat} {w : World} {tab : Tab} {k : List It} {env : Env} {L l : List Oper} {d : Nat} {ty : TypeId} {ps : String} {af : Array Edge} {g : Option (Nat × Bool)}
theorem ev_doV {op : Op} (hg : guardOf L env g = some true) (v : Value) (w' : World)
    (hop : ∀ a, Ag n a env → (execOp a.eval ⟨none, op, ty, ps, af, g⟩).run P w = .ok (.value v) w')
    (hk : H P fn R n (.ops L l :: k) .normal env w') : H P fn R n (.ops L (⟨none, op, ty, ps, af, g⟩ :: l) :: k) .normal env w := by
  intro a hA
  show wpList P L.toArray (semK P fn R k) _ a w
  have hw := guardOf_ok (o := ⟨none, op, ty, ps, af, g⟩) hg hA
  unfold wpList
  rw [if_pos hw]
  left
  unfold Oper.wp
  rw [hop a hA]
  exact hk _ hA
theorem Blk.setRow {b : Nat} {cs ds : List Value} {T : TypeId} (hb : Blk w b cs T) : Blk (w.setRow b ds.toArray) b ds T ∧ Fr (fun c => c = b) w (w.setRow b ds.toArray) := by
  refine ⟨?_, ⟨rfl, rfl, rfl, by simp, fun c hc hn => setRow_other w b c _ (fun e => hn e)⟩⟩
  unfold Blk at *
  rw [setRow_heap w b ⟨cs⟩ ds.toArray T (0, 0) hb]
theorem addLit (b o j : Nat) : (⟨b, o, none⟩ : Addr).add j = ⟨b, o + j, none⟩ := Addr.add_lit ..
/-- copy, of something -/
theorem ev_copy {dT sT e : TypeId} {x y : Operand} {b o dLen dCap b2 o2 sLen sCap : Nat} {cs news : List Value} {T : TypeId} {z : Value} {by_ : Nat} (hT : TabOk P tab) (hg : guardOf L env g = some true) (hd : Nat.blt d n = true)
    (hx : ev env x = some (.slice (some ⟨b, o, none⟩) dLen dCap)) (hy : ev env y = some (.slice (some ⟨b2, o2, none⟩) sLen sCap)) (hty : tyAt tab dT = .slice e 1) (hz : Inf P e z 1 by_)
    (hb : Blk w b cs T) (hc : Cs w (some ⟨b2, o2, none⟩) news) (hl : news.length = Nat.min sLen dLen) (hfit : o + news.length ≤ cs.length) (h1 : ∀ u ∈ news, u.oneCell' = true)
    (hk : ∀ w', Blk w' b (cs.take o ++ news ++ cs.drop (o + news.length)) T → Fr (fun c => c = b) w w' → H P fn R n (.ops L l :: k) .normal ((d, .int .i64 news.length) :: env) w') :
    H P fn R n (.ops L (⟨some d, .call ⟨.builtin .copy, ⟨[x, y]⟩, ⟨[dT, sT]⟩⟩, ty, ps, af, g⟩ :: l) :: k) .normal env w := by
  obtain ⟨inf, hi, hzv, hs, hby⟩ := hz
  have hr := run_copy_row (P := P) w dT sT ty e b o dLen dCap ⟨b2, o2, none⟩ sLen sCap ⟨cs⟩ T news (ty_slice hT hty).1 (by rw [hi]; simp [hs]) hb hl (fun j u hj => by rw [addLit]; exact hc.at hj) (by simpa using hfit) h1
  obtain ⟨h2, h3⟩ := hb.setRow (ds := cs.take o ++ news ++ cs.drop (o + news.length))
  exact ev_op hg hd _ _ (fun a hA => by
    simp only [execOp, resolve, List.map_toArray, List.map, hA.ev hx, hA.ev hy]
    exact run_bind hr) (hk _ h2 h3)
/-- clear, of something -/
theorem ev_clear {t e : TypeId} {x : Operand} {b o len cap : Nat} {cs : List Value} {T : TypeId} {z : Value} {by_ : Nat} (hT : TabOk P tab) (hg : guardOf L env g = some true)
    (hx : ev env x = some (.slice (some ⟨b, o, none⟩) (len + 1) cap)) (hty : tyAt tab t = .slice e 1) (hz : Inf P e z 1 by_) (hzc : z.cells = #[z]) (hz1 : z.oneCell' = true)
    (hb : Blk w b cs T) (hfit : o + (len + 1) ≤ cs.length)
    (hk : ∀ w' ds, Blk w' b (cs.take o ++ ds) T → (cs.take o ++ ds).length = cs.length → Fr (fun c => c = b) w w' → H P fn R n (.ops L l :: k) .normal env w') :
    H P fn R n (.ops L (⟨none, .call ⟨.builtin .clear, ⟨[x]⟩, ⟨[t]⟩⟩, ty, ps, af, g⟩ :: l) :: k) .normal env w := by
  obtain ⟨inf, hi, hzv, hs, hby⟩ := hz
  have hzl : (Builtin.zeroCells z.cells (len + 1)).toList.length = len + 1 := by
    rw [Array.length_toList, size_zeroCells, hzc]; simp
  have hz1' : ∀ u ∈ (Builtin.zeroCells z.cells (len + 1)).toList, u.oneCell' = true := by
    intro u hu
    rw [hzc] at hu
    simp [Builtin.zeroCells] at hu
    obtain ⟨j, hj, rfl⟩ := hu
    simpa [Nat.mod_one] using hz1
  have hst := run_storeCells_at P b o T (Builtin.zeroCells z.cells (len + 1)).toList 0 ⟨cs⟩ w hb (by rw [hzl]; simpa using hfit) hz1'
  have hr : (Builtin.clear_ #[t] ty #[.slice (some ⟨b, o, none⟩) (len + 1) cap]).run P w = .ok (.tuple #[]) (w.setRow b (cs.take o ++ ((Builtin.zeroCells z.cells (len + 1)).toList ++ cs.drop (o + (len + 1)))).toArray) := by
    unfold Builtin.clear_
    refine (run_bind (run_underlying' (ty_slice hT hty).1)).trans ?_
    show Sem.run P (zeroValue e >>= fun q => storeCells ⟨b, o, none⟩ (Builtin.zeroCells q.cells (len + 1)).toList >>= fun _ => pure (Value.tuple #[])) w = _
    refine (run_bind (a := z) (w' := w) ?_).trans ?_
    · unfold zeroValue
      refine (run_bind (run_typeInfo hi)).trans ?_
      rw [hzv]; rfl
    · rw [hzl] at hst
      simp only [Nat.add_zero, List.append_assoc] at hst
      exact (run_bind hst).trans rfl
  obtain ⟨h2, h3⟩ := hb.setRow (ds := cs.take o ++ ((Builtin.zeroCells z.cells (len + 1)).toList ++ cs.drop (o + (len + 1))))
  refine ev_doV hg _ _ (fun a hA => by
    simp only [execOp, resolve, List.map_toArray, List.map, hA.ev hx]
    exact run_bind hr) (hk _ _ h2 ?_ h3)
  simp only [List.length_append, List.length_take, List.length_drop, hzl]
  omega
/-- append where there is room -/
theorem ev_appendRoom {x y : Operand} {t e : TypeId} {b nn cap m c : Nat} {A : Option Addr} {cs news : List Value} {z : Value} {by_ : Nat}
    (hT : TabOk P tab) (hg : guardOf L env g = some true) (hd : Nat.blt d n = true) (hty : tyAt tab t = .slice e 1) (hz : Inf P e z 1 by_)
    (hx : ev env x = some (.slice (some ⟨b, 0, none⟩) nn cap)) (hy : ev env y = some (.slice A m c)) (hb : Blk w b cs e) (hcap : cs.length = cap) (hc : Cs w A news) (hl : news.length = m) (hm : 0 < m) (h1 : ∀ u ∈ news, u.oneCell' = true) (hroom : nn + m ≤ cap)
    (hk : ∀ w', Blk w' b (cs.take nn ++ news ++ cs.drop (nn + m)) e → Fr (fun c => c = b) w w' → H P fn R n (.ops L l :: k) .normal ((d, .slice (some ⟨b, 0, none⟩) (nn + m) cap) :: env) w') :
    H P fn R n (.ops L (⟨some d, .call ⟨.builtin .append, ⟨[x, y]⟩, ⟨[t, t]⟩⟩, ty, ps, af, g⟩ :: l) :: k) .normal env w := by
  obtain ⟨inf, hi, hzv, hs, hby⟩ := hz
  obtain ⟨b2, o2, rfl, _⟩ := hc 0 (news[0]'(by omega)) (by simp [show 0 < news.length by omega])
  have hr := run_append_room (P := P) w t ty e inf (ty_slice hT hty).1 hi b nn cap ⟨cs⟩ hb ⟨b2, o2, none⟩ m c news (by rw [hs]; omega) (fun j u hj => by rw [addLit]; exact hc.at hj) h1 hroom (by rw [hs]; simp; omega)
  rw [hs, Nat.mul_one] at hr
  obtain ⟨h2, h3⟩ := hb.setRow (ds := cs.take nn ++ news ++ cs.drop (nn + m))
  exact ev_op hg hd (.slice (some ⟨b, 0, none⟩) (nn + m) cap) (w.setRow b (cs.take nn ++ news ++ cs.drop (nn + m)).toArray) (fun a hA => by
    simp only [execOp, resolve, List.map_toArray, List.map, hA.ev hx, hA.ev hy]
    rw [hl] at hr
    exact run_bind hr) (hk _ h2 h3)
end
end Go.Wk
namespace Go.Wk
open Go
section
variable {P : Program} {fn : Func} {R : Ending → World → Prop} {n : Nat} {tab : Tab} {w : World}
theorem ev_scopeP {α : Type} (l : Nat) (E : α → Env) (J : α → World → Prop) (m : α → Nat) {k : List It} {env : Env} {c rest : Code} (hf : findLabel c l = some (.seq .skip rest))
    (pass : ∀ (JJ : Act → World → Prop) (x : α) (w : World), J x w → (∀ (y : α) (env' : Env) (w' : World) (a : Act), m y < m x → J y w' → SubE env' (E y) → Ag n a env' → JJ a w') → H P fn R n (.code rest :: .jmp l JJ :: k) .normal (E x) w)
    (first : (∀ (x : α) (w : World) (env' : Env), J x w → SubE env' (E x) → H P fn R n (.code rest :: .jmp l (fun a w => ∃ y, J y w ∧ Ag n a (E y)) :: k) .normal env' w) →
      H P fn R n (.code c :: .jmp l (fun a w => ∃ y, J y w ∧ Ag n a (E y)) :: k) .normal env w) : H P fn R n (.code (.scope c) :: k) .normal env w :=
  ev_scope l E J m hf (first fun x w env' hx hs => ev_env _ hs (pass _ x w hx fun y env'' w' a _ hy hs' hA => ⟨y, hy, hA.sub hs'⟩))
    fun x w hx a hA => wp_seq (wp_skip (pass _ x w hx (fun y env' w' a hm hy hs' hA => ⟨y, hm, hy, hA.sub hs'⟩) a hA))
theorem ev_jumpP {JJ : Act → World → Prop} {l : Nat} {k : List It} {env : Env} (h : ∀ a, Ag n a env → JJ a w) : H P fn R n (.jmp l JJ :: k) (.goto l) env w := fun a hA => ⟨rfl, h a hA⟩
end
end Go.Wk
