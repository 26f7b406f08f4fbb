/-
  The walk kit of this repo, part 16: capacities.
-/
import Derived.Test.YtjdfdahdobikmaaEvs
set_option linter.unusedVariables false
set_option linter.unusedSimpArgs false
namespace Go.Wk
open Go Go.Lib
def capV : Value → Nat
  | .slice _ _ c => c
  | _ => 0
section
variable {P : Program} (w : World)
theorem run_app_strC {t u ty e : TypeId} {i : TypeInfo} (ht : P.underlying t = some (.slice e)) (hu : P.underlying u = some .string) (hi : P.info? e = some i) (hz : i.zero = some (.int .u8 0))
    (hsize : i.size = 1) (hby : i.bytes = 1)
    {v : Value} {n : Nat} {xs : List Value} (hown : Own w e 1 v n xs) (s : List UInt8)
    (hbytes : n + s.length ≤ 140737488355328) :
    ∃ v' w', (Builtin.append_ #[t, u] ty #[v, .string (sOf s)]).run P w = .ok v' w' ∧ Own w' e 1 v' (n + s.length) (xs ++ s.map bv) ∧ Fr (fun b => v.ownBlock = some b) w w' ∧
      (v'.ownBlock = v.ownBlock ∨ v'.ownBlock = some w.heap.size) ∧ capV v ≤ capV v' := by
  have hsz : (sOf s).size = s.length := rfl
  have hcells : strCells (sOf s) = s.map bv := by simp [strCells]
  have h63 : n + s.length ≤ maxLen := by unfold maxLen; omega
  have hxl : xs.length = n := by simpa using hown.1
  have hlen : (xs ++ s.map bv).length = (n + s.length) * 1 := by rw [List.length_append, hxl, List.length_map, Nat.mul_one]
  have grown : ∀ (old : Nat), old < n + s.length →
      Own (w.drew.alloc (.cells (xs.toArray ++ (s.map bv).toArray ++ Builtin.zeroCells (Value.int .u8 0).cells (grownCap w (n + s.length) old e - (n + s.length))) e)) e 1
        (.slice (some ⟨w.heap.size, 0, none⟩) (n + s.length) (grownCap w (n + s.length) old e)) (n + s.length) (xs ++ s.map bv) := by
    intro old ho
    have hge := grownCap_ge w (n + s.length) old e
    have hcm : grownCap w (n + s.length) old e ≤ maxLen := grownCap_le_maxLen w (n + s.length) old e h63
    refine ⟨hlen, .inr ⟨w.heap.size, _, _, rfl, Nat.zero_le _, heap_alloc_new w.drew _, hge, hcm, ?_, ?_⟩⟩
    · have hz1 : (Value.int IntKind.u8 0).cells.size = 1 := rfl
      simp only [Array.size_append, List.size_toArray, size_zeroCells, hz1, hxl, List.length_map]
      omega
    · simp only [Array.toList_append, List.append_assoc]
      rw [← List.append_assoc, ← hlen]
      exact List.take_left
  have hfr : ∀ (S : Nat → Prop) (o : Obj), Fr S w (w.drew.alloc o) := fun S o => ((Fr.drew w).tr (Fr.alloc _ o)).mono fun _ _ x => x.elim
  rcases hown.2 with ⟨rfl, rfl⟩ | ⟨g, cap, cur, rfl, hbg, hg, hnc, hcm, hcs, htake⟩
  · have hx : xs = [] := List.eq_nil_of_length_eq_zero hxl
    subst hx
    by_cases hm : s.length = 0
    · have hn : s = [] := List.eq_nil_of_length_eq_zero hm
      subst hn
      refine ⟨.slice none 0 0, w, ?_, World.ownsRow_nil w 0 e 1, Fr.refl _ _, .inl rfl, Nat.le_refl _⟩
      simp [Builtin.append_, run_underlying ht, run_underlying hu, sizeOf, typeInfo, hi, Builtin.lenOf, Builtin.firstCells, ByteArray.size]
    · have hr := run_append_nil_string (P := P) w t u ty e i (.int .u8 0) ht hu hi hz (sOf s) (by rw [hsz]; omega) (by rw [hsz]; omega) (by rw [hsz, hby]; omega)
      have hgr := grown 0 (by omega)
      simp only [Nat.zero_add, List.nil_append, Array.empty_append] at hgr ⊢
      simp only [hsz] at hr
      refine ⟨_, _, hr, ?_, hfr _ _, .inr rfl, Nat.zero_le _⟩
      have e1 : Array.map (fun b : UInt8 => Value.int IntKind.u8 (b.toNat : Int)) (sOf s).data = (s.map bv).toArray := by simp
      rw [e1]; exact hgr
  · by_cases hroom : n + s.length ≤ cap
    · have hfit : n + (sOf s).size ≤ cur.size := by rw [hcs, hsz]; omega
      have hr := run_append_room_string (P := P) w t u ty e i ht hu hi hsize g n cap cur hg (sOf s) (by rw [hsz]; exact hroom) hfit
      rw [hcells] at hr
      simp only [hsz] at hr
      refine ⟨_, _, hr, ⟨hlen, .inr ⟨g, cap, _, rfl, hbg, setRow_heap w g cur _ e _ hg, hroom, hcm, ?_, ?_⟩⟩, Fr.of_grown ⟨rfl, rfl, rfl, by simp, fun k _ hk => setRow_other w g k _ (fun e => hk (by simp [Value.ownBlock, e]))⟩, .inl rfl, Nat.le_refl _⟩
      · simp only [List.size_toArray, List.length_append, List.length_take, List.length_drop, Array.length_toList, List.length_map]
        rw [hsz] at hfit
        omega
      · have : cur.toList.take n = xs := by simpa using htake
        rw [this, ← hlen]
        exact List.take_left
    · have holds : ∀ j u, xs[j]? = some u → w.cell? ((⟨g, 0, none⟩ : Addr).add j) = some u := hown.cells (g := g) rfl
      have hr := run_append_grow_string (P := P) w t u ty e i (.int .u8 0) ht hu hi hz ⟨g, 0, none⟩ n cap xs (by rw [hsize]; exact hown.1) holds (sOf s) (by rw [hsz]; omega) (by rw [hsz]; omega) (by rw [hsz]; exact growslice_fits (by omega) (by rw [hby]; omega))
      rw [hcells] at hr
      simp only [hsz] at hr
      exact ⟨_, _, hr, grown cap (by omega), hfr _ _, .inr rfl, by have := grownCap_ge w (n + s.length) cap e; simp only [capV]; omega⟩
end
section
variable {P : Program} {fn : Func} {R : Ending → World → Prop} {n : Nat} {w : World} {C : World → Prop} {Q : Act → Prop} {tab : Tab} {k : List It} {env : Env} {L l : List Oper} {d : Nat} {ty : TypeId} {ps : String} {af : Array Edge} {g : Option (Nat × Bool)}
theorem y_cap {dd : Option Nat} {t e sz : TypeId} {x : Operand} {A : Option Addr} {len cap : Nat} (hT : TabOk P tab) (hx : ev env x = some (.slice A len cap)) (hty : tyAt tab t = .slice e sz) :
    Yv P n env C ⟨dd, .call ⟨.builtin .cap, ⟨[x]⟩, ⟨[t]⟩⟩, ty, ps, af, g⟩ (.int .i64 cap) := fun a hA w hw => by
  have h1 : (Builtin.cap_ #[t] ty #[.slice A len cap]).run P w = .ok (.int .i64 cap) w := run_bind (run_underlying' (ty_slice hT hty).1)
  simp only [execOp, resolve, List.map_toArray, List.map, hA.ev hx]
  exact run_bind h1
theorem ev_cap {t e sz : TypeId} {x : Operand} {A : Option Addr} {len cap : Nat} (hg : guardOf L env g = some true) (hd : Nat.blt d n = true) (hT : TabOk P tab) (hx : ev env x = some (.slice A len cap)) (hty : tyAt tab t = .slice e sz)
    (hk : H P fn R n (.ops L l :: k) .normal ((d, .int .i64 cap) :: env) w) : H P fn R n (.ops L (⟨some d, .call ⟨.builtin .cap, ⟨[x]⟩, ⟨[t]⟩⟩, ty, ps, af, g⟩ :: l) :: k) .normal env w :=
  ev_y hg hd (y_cap hT hx hty) hk
theorem q_cap {t e sz : TypeId} {x : Operand} {A : Option Addr} {len cap : Nat} (hg : guardOf L env g = some true) (hd : Nat.blt d n = true) (hT : TabOk P tab) (hx : ev env x = some (.slice A len cap)) (hty : tyAt tab t = .slice e sz)
    (hk : HQ P C n Q L l ((d, .int .i64 cap) :: env)) : HQ P C n Q L (⟨some d, .call ⟨.builtin .cap, ⟨[x]⟩, ⟨[t]⟩⟩, ty, ps, af, g⟩ :: l) env :=
  q_y hg hd (y_cap hT hx hty) hk
/-- append of a string's bytes: the room never shrinks -/
theorem ev_appendStrC {x y : Operand} {t u : TypeId} {e : Nat} {v : Value} {nn : Nat} {xs : List Value} {s : List UInt8}
    (hT : TabOk P tab) (hg : guardOf L env g = some true) (hd : Nat.blt d n = true) (hty : tyAt tab t = .slice e 1) (hu : tyAt tab u = .str) (hz : Inf P e (.int .u8 0) 1 1)
    (hx : ev env x = some v) (hy : ev env y = some (.string (sOf s))) (hown : Own w e 1 v nn xs) (hbytes : nn + s.length ≤ 140737488355328)
    (hk : ∀ v' w', Own w' e 1 v' (nn + s.length) (xs ++ s.map bv) → Fr (fun q => v.ownBlock = some q) w w' → NB w v v' → capV v ≤ capV v' → H P fn R n (.ops L l :: k) .normal ((d, v') :: env) w') :
    H P fn R n (.ops L (⟨some d, .call ⟨.builtin .append, ⟨[x, y]⟩, ⟨[t, u]⟩⟩, ty, ps, af, g⟩ :: l) :: k) .normal env w := by
  obtain ⟨inf, hi, hzv, hs, hby⟩ := hz
  obtain ⟨ht, h2⟩ := ty_slice hT hty
  obtain ⟨v', w', hr, h3, h4, h5, h6⟩ := run_app_strC (P := P) w (ty := ty) ht (ty_str hT hu) hi hzv hs hby hown s hbytes
  exact ev_op hg hd v' w' (fun a hA => by
    simp only [execOp, resolve, List.map_toArray, List.map, hA.ev hx, hA.ev hy]
    exact run_bind hr) (hk v' w' h3 h4 (NB.of h5) h6)
end
end Go.Wk
