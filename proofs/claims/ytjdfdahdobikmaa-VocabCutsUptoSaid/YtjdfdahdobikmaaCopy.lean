/-
  The walk kit of this repo, part 20: cells copied and cleared in a block that is known whole; appends that have room there.
-/
import Derived.Test.YtjdfdahdobikmaaCaps
import Derived.Laws.CopyRow
set_option linter.unusedVariables false
set_option linter.unusedSimpArgs false
namespace Go.Wk
open Go Go.Lib
section
variable {P : Program} {fn : Func} {R : Ending → World → Prop} {n : Nat} {w : World} {tab : Tab} {k : List It} {env : Env} {L l : List Oper} {d : Nat} {ty : TypeId} {ps : String} {af : Array Edge} {g : Option (Nat × Bool)}
theorem ev_doV {op : Op} (hg : guardOf L env g = some true) (v : Value) (w' : World)
    (hop : ∀ a, Ag n a env → (execOp a.eval ⟨none, op, ty, ps, af, g⟩).run P w = .ok (.value v) w')
    (hk : H P fn R n (.ops L l :: k) .normal env w') : H P fn R n (.ops L (⟨none, op, ty, ps, af, g⟩ :: l) :: k) .normal env w := by
  intro a hA
  show wpList P L.toArray (semK P fn R k) _ a w
  have hw := guardOf_ok (o := ⟨none, op, ty, ps, af, g⟩) hg hA
  unfold wpList
  rw [if_pos hw]
  left
  unfold Oper.wp
  rw [hop a hA]
  exact hk _ hA
theorem Blk.setRow {b : Nat} {cs ds : List Value} {T : TypeId} (hb : Blk w b cs T) : Blk (w.setRow b ds.toArray) b ds T ∧ Fr (fun c => c = b) w (w.setRow b ds.toArray) := by
  refine ⟨?_, ⟨rfl, rfl, rfl, by simp, fun c hc hn => setRow_other w b c _ (fun e => hn e)⟩⟩
  unfold Blk at *
  rw [setRow_heap w b ⟨cs⟩ ds.toArray T (0, 0) hb]
theorem addLit (b o j : Nat) : (⟨b, o, none⟩ : Addr).add j = ⟨b, o + j, none⟩ := Addr.add_lit ..
/-- copy, of something -/
theorem ev_copy {dT sT e : TypeId} {x y : Operand} {b o dLen dCap b2 o2 sLen sCap : Nat} {cs news : List Value} {T : TypeId} {z : Value} {by_ : Nat} (hT : TabOk P tab) (hg : guardOf L env g = some true) (hd : Nat.blt d n = true)
    (hx : ev env x = some (.slice (some ⟨b, o, none⟩) dLen dCap)) (hy : ev env y = some (.slice (some ⟨b2, o2, none⟩) sLen sCap)) (hty : tyAt tab dT = .slice e 1) (hz : Inf P e z 1 by_)
    (hb : Blk w b cs T) (hc : Cs w (some ⟨b2, o2, none⟩) news) (hl : news.length = Nat.min sLen dLen) (hfit : o + news.length ≤ cs.length) (h1 : ∀ u ∈ news, u.oneCell' = true)
    (hk : ∀ w', Blk w' b (cs.take o ++ news ++ cs.drop (o + news.length)) T → Fr (fun c => c = b) w w' → H P fn R n (.ops L l :: k) .normal ((d, .int .i64 news.length) :: env) w') :
    H P fn R n (.ops L (⟨some d, .call ⟨.builtin .copy, ⟨[x, y]⟩, ⟨[dT, sT]⟩⟩, ty, ps, af, g⟩ :: l) :: k) .normal env w := by
  obtain ⟨inf, hi, hzv, hs, hby⟩ := hz
  have hr := run_copy_row (P := P) w dT sT ty e b o dLen dCap ⟨b2, o2, none⟩ sLen sCap ⟨cs⟩ T news (ty_slice hT hty).1 (by rw [hi]; simp [hs]) hb hl (fun j u hj => by rw [addLit]; exact hc.at hj) (by simpa using hfit) h1
  obtain ⟨h2, h3⟩ := hb.setRow (ds := cs.take o ++ news ++ cs.drop (o + news.length))
  exact ev_op hg hd _ _ (fun a hA => by
    simp only [execOp, resolve, List.map_toArray, List.map, hA.ev hx, hA.ev hy]
    exact run_bind hr) (hk _ h2 h3)
/-- clear, of something -/
theorem ev_clear {t e : TypeId} {x : Operand} {b o len cap : Nat} {cs : List Value} {T : TypeId} {z : Value} {by_ : Nat} (hT : TabOk P tab) (hg : guardOf L env g = some true)
    (hx : ev env x = some (.slice (some ⟨b, o, none⟩) (len + 1) cap)) (hty : tyAt tab t = .slice e 1) (hz : Inf P e z 1 by_) (hzc : z.cells = #[z]) (hz1 : z.oneCell' = true)
    (hb : Blk w b cs T) (hfit : o + (len + 1) ≤ cs.length)
    (hk : ∀ w' ds, Blk w' b (cs.take o ++ ds) T → (cs.take o ++ ds).length = cs.length → Fr (fun c => c = b) w w' → H P fn R n (.ops L l :: k) .normal env w') :
    H P fn R n (.ops L (⟨none, .call ⟨.builtin .clear, ⟨[x]⟩, ⟨[t]⟩⟩, ty, ps, af, g⟩ :: l) :: k) .normal env w := by
  obtain ⟨inf, hi, hzv, hs, hby⟩ := hz
  have hzl : (Builtin.zeroCells z.cells (len + 1)).toList.length = len + 1 := by
    rw [Array.length_toList, size_zeroCells, hzc]; simp
  have hz1' : ∀ u ∈ (Builtin.zeroCells z.cells (len + 1)).toList, u.oneCell' = true := by
    intro u hu
    rw [hzc] at hu
    simp [Builtin.zeroCells] at hu
    obtain ⟨j, hj, rfl⟩ := hu
    simpa [Nat.mod_one] using hz1
  have hst := run_storeCells_at P b o T (Builtin.zeroCells z.cells (len + 1)).toList 0 ⟨cs⟩ w hb (by rw [hzl]; simpa using hfit) hz1'
  have hr : (Builtin.clear_ #[t] ty #[.slice (some ⟨b, o, none⟩) (len + 1) cap]).run P w = .ok (.tuple #[]) (w.setRow b (cs.take o ++ ((Builtin.zeroCells z.cells (len + 1)).toList ++ cs.drop (o + (len + 1)))).toArray) := by
    unfold Builtin.clear_
    refine (run_bind (run_underlying' (ty_slice hT hty).1)).trans ?_
    show Sem.run P (zeroValue e >>= fun q => storeCells ⟨b, o, none⟩ (Builtin.zeroCells q.cells (len + 1)).toList >>= fun _ => pure (Value.tuple #[])) w = _
    refine (run_bind (a := z) (w' := w) ?_).trans ?_
    · unfold zeroValue
      refine (run_bind (run_typeInfo hi)).trans ?_
      rw [hzv]; rfl
    · rw [hzl] at hst
      simp only [Nat.add_zero, List.append_assoc] at hst
      exact (run_bind hst).trans rfl
  obtain ⟨h2, h3⟩ := hb.setRow (ds := cs.take o ++ ((Builtin.zeroCells z.cells (len + 1)).toList ++ cs.drop (o + (len + 1))))
  refine ev_doV hg _ _ (fun a hA => by
    simp only [execOp, resolve, List.map_toArray, List.map, hA.ev hx]
    exact run_bind hr) (hk _ _ h2 ?_ h3)
  simp only [List.length_append, List.length_take, List.length_drop, hzl]
  omega
/-- append where there is room -/
theorem ev_appendRoom {x y : Operand} {t e : TypeId} {b nn cap m c : Nat} {A : Option Addr} {cs news : List Value} {z : Value} {by_ : Nat}
    (hT : TabOk P tab) (hg : guardOf L env g = some true) (hd : Nat.blt d n = true) (hty : tyAt tab t = .slice e 1) (hz : Inf P e z 1 by_)
    (hx : ev env x = some (.slice (some ⟨b, 0, none⟩) nn cap)) (hy : ev env y = some (.slice A m c)) (hb : Blk w b cs e) (hcap : cs.length = cap) (hc : Cs w A news) (hl : news.length = m) (hm : 0 < m) (h1 : ∀ u ∈ news, u.oneCell' = true) (hroom : nn + m ≤ cap)
    (hk : ∀ w', Blk w' b (cs.take nn ++ news ++ cs.drop (nn + m)) e → Fr (fun c => c = b) w w' → H P fn R n (.ops L l :: k) .normal ((d, .slice (some ⟨b, 0, none⟩) (nn + m) cap) :: env) w') :
    H P fn R n (.ops L (⟨some d, .call ⟨.builtin .append, ⟨[x, y]⟩, ⟨[t, t]⟩⟩, ty, ps, af, g⟩ :: l) :: k) .normal env w := by
  obtain ⟨inf, hi, hzv, hs, hby⟩ := hz
  obtain ⟨b2, o2, rfl, _⟩ := hc 0 (news[0]'(by omega)) (by simp [show 0 < news.length by omega])
  have hr := run_append_room (P := P) w t ty e inf (ty_slice hT hty).1 hi b nn cap ⟨cs⟩ hb ⟨b2, o2, none⟩ m c news (by rw [hs]; omega) (fun j u hj => by rw [addLit]; exact hc.at hj) h1 hroom (by rw [hs]; simp; omega)
  rw [hs, Nat.mul_one] at hr
  obtain ⟨h2, h3⟩ := hb.setRow (ds := cs.take nn ++ news ++ cs.drop (nn + m))
  exact ev_op hg hd (.slice (some ⟨b, 0, none⟩) (nn + m) cap) (w.setRow b (cs.take nn ++ news ++ cs.drop (nn + m)).toArray) (fun a hA => by
    simp only [execOp, resolve, List.map_toArray, List.map, hA.ev hx, hA.ev hy]
    rw [hl] at hr
    exact run_bind hr) (hk _ h2 h3)
end
end Go.Wk
