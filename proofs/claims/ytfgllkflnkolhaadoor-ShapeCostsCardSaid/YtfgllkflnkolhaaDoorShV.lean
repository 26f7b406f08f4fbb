/-
  Chapter 16: shapes and places held against one another; Preset; the law ShapeCosts.
-/
import Derived.Test.YtfgllkflnkolhaaDoorShU
set_option linter.unusedVariables false
namespace Go.Wk.YtfgllkflnkolhaaDoor
open Go Go.Wk Go.Proofs

theorem shpR_neq (x y : Shp) (w : World) : (binOp .neq 30 (shpV x) (shpV y)).run Tryd.prog w = .ok (.bool (!decide (x = y))) w := by
  obtain ⟨a, b, c, d, e, f⟩ := x
  obtain ⟨a', b', c', d', e', f'⟩ := y
  have u3 := Tryd.underlying3
  have a3 := Tryd.isAgg3
  have z3 := Tryd.sizeOf3
  have hS : Tryd.prog.underlying 30 = some (.struct (Tryd.prog.fieldsOf 30)) := by kernel_rfl
  rw [run_neq_struct, show (10000 : Nat) = 9999 + 1 from rfl, run_equalIn_agg w 9999 30 _ _ hS (by kernel_rfl)]
  simp only [Program.fieldsOf, Tryd.underlying30]
  go_simp
  by_cases h1 : a = a'
  case neg => simp [h1]
  by_cases h2 : b = b'
  case neg => simp [h1, h2]
  by_cases h3 : c = c'
  case neg => simp [h1, h2, h3]
  by_cases h4 : d = d'
  case neg => simp [h1, h2, h3, h4]
  by_cases h5 : e = e'
  case neg => simp [h1, h2, h3, h4, h5]
  by_cases h6 : f = f' <;> simp [h1, h2, h3, h4, h5, h6]
theorem y_shpR_neq {C : World → Prop} {n : Nat} {env : Env} {d : Option Nat} {ty t' : TypeId} {ps : String} {af : Array Edge} {g : Option (Nat × Bool)} {x y : Operand} {m m' : Shp}
    (hx : ev env x = some (shpV m)) (hy : ev env y = some (shpV m')) : Yv Tryd.prog n env C ⟨d, .binOp .neq 30 x y t', ty, ps, af, g⟩ (.bool (!decide (m = m'))) := fun a hA w _ => by
  simp only [execOp, hA.ev hx, hA.ev hy]
  refine run_bind (a := Value.bool (!decide (m = m'))) (w' := w) ?_
  refine (run_bind (a := ()) (w' := w) (run_eqGuard_agg _ _ _ _ _ _ _ (by kernel_rfl))).trans ?_
  exact shpR_neq m m' w
theorem shpR_eql (x y : Shp) (w : World) : (binOp .eql 30 (shpV x) (shpV y)).run Tryd.prog w = .ok (.bool (decide (x = y))) w := by
  obtain ⟨a, b, c, d, e, f⟩ := x
  obtain ⟨a', b', c', d', e', f'⟩ := y
  have u3 := Tryd.underlying3
  have a3 := Tryd.isAgg3
  have z3 := Tryd.sizeOf3
  have hS : Tryd.prog.underlying 30 = some (.struct (Tryd.prog.fieldsOf 30)) := by kernel_rfl
  rw [run_eql_struct, show (10000 : Nat) = 9999 + 1 from rfl, run_equalIn_agg w 9999 30 _ _ hS (by kernel_rfl)]
  simp only [Program.fieldsOf, Tryd.underlying30]
  go_simp
  by_cases h1 : a = a'
  case neg => simp [h1]
  by_cases h2 : b = b'
  case neg => simp [h1, h2]
  by_cases h3 : c = c'
  case neg => simp [h1, h2, h3]
  by_cases h4 : d = d'
  case neg => simp [h1, h2, h3, h4]
  by_cases h5 : e = e'
  case neg => simp [h1, h2, h3, h4, h5]
  by_cases h6 : f = f' <;> simp [h1, h2, h3, h4, h5, h6]
theorem y_shpR_eql {C : World → Prop} {n : Nat} {env : Env} {d : Option Nat} {ty t' : TypeId} {ps : String} {af : Array Edge} {g : Option (Nat × Bool)} {x y : Operand} {m m' : Shp}
    (hx : ev env x = some (shpV m)) (hy : ev env y = some (shpV m')) : Yv Tryd.prog n env C ⟨d, .binOp .eql 30 x y t', ty, ps, af, g⟩ (.bool (decide (m = m'))) := fun a hA w _ => by
  simp only [execOp, hA.ev hx, hA.ev hy]
  refine run_bind (a := Value.bool (decide (m = m'))) (w' := w) ?_
  refine (run_bind (a := ()) (w' := w) (run_eqGuard_agg _ _ _ _ _ _ _ (by kernel_rfl))).trans ?_
  exact shpR_eql m m' w
theorem shpA_neq (x y : Shp) (w : World) : (binOp .neq 23 (shpV x) (shpV y)).run Tryd.prog w = .ok (.bool (!decide (x = y))) w := by
  obtain ⟨a, b, c, d, e, f⟩ := x
  obtain ⟨a', b', c', d', e', f'⟩ := y
  have u3 := Tryd.underlying3
  have a3 := Tryd.isAgg3
  have z3 := Tryd.sizeOf3
  have hS : Tryd.prog.underlying 23 = some (.struct (Tryd.prog.fieldsOf 23)) := by kernel_rfl
  rw [run_neq_struct, show (10000 : Nat) = 9999 + 1 from rfl, run_equalIn_agg w 9999 23 _ _ hS (by kernel_rfl)]
  simp only [Program.fieldsOf, Tryd.underlying23]
  go_simp
  by_cases h1 : a = a'
  case neg => simp [h1]
  by_cases h2 : b = b'
  case neg => simp [h1, h2]
  by_cases h3 : c = c'
  case neg => simp [h1, h2, h3]
  by_cases h4 : d = d'
  case neg => simp [h1, h2, h3, h4]
  by_cases h5 : e = e'
  case neg => simp [h1, h2, h3, h4, h5]
  by_cases h6 : f = f' <;> simp [h1, h2, h3, h4, h5, h6]
theorem y_shpA_neq {C : World → Prop} {n : Nat} {env : Env} {d : Option Nat} {ty t' : TypeId} {ps : String} {af : Array Edge} {g : Option (Nat × Bool)} {x y : Operand} {m m' : Shp}
    (hx : ev env x = some (shpV m)) (hy : ev env y = some (shpV m')) : Yv Tryd.prog n env C ⟨d, .binOp .neq 23 x y t', ty, ps, af, g⟩ (.bool (!decide (m = m'))) := fun a hA w _ => by
  simp only [execOp, hA.ev hx, hA.ev hy]
  refine run_bind (a := Value.bool (!decide (m = m'))) (w' := w) ?_
  refine (run_bind (a := ()) (w' := w) (run_eqGuard_agg _ _ _ _ _ _ _ (by kernel_rfl))).trans ?_
  exact shpA_neq m m' w
theorem shpA_eql (x y : Shp) (w : World) : (binOp .eql 23 (shpV x) (shpV y)).run Tryd.prog w = .ok (.bool (decide (x = y))) w := by
  obtain ⟨a, b, c, d, e, f⟩ := x
  obtain ⟨a', b', c', d', e', f'⟩ := y
  have u3 := Tryd.underlying3
  have a3 := Tryd.isAgg3
  have z3 := Tryd.sizeOf3
  have hS : Tryd.prog.underlying 23 = some (.struct (Tryd.prog.fieldsOf 23)) := by kernel_rfl
  rw [run_eql_struct, show (10000 : Nat) = 9999 + 1 from rfl, run_equalIn_agg w 9999 23 _ _ hS (by kernel_rfl)]
  simp only [Program.fieldsOf, Tryd.underlying23]
  go_simp
  by_cases h1 : a = a'
  case neg => simp [h1]
  by_cases h2 : b = b'
  case neg => simp [h1, h2]
  by_cases h3 : c = c'
  case neg => simp [h1, h2, h3]
  by_cases h4 : d = d'
  case neg => simp [h1, h2, h3, h4]
  by_cases h5 : e = e'
  case neg => simp [h1, h2, h3, h4, h5]
  by_cases h6 : f = f' <;> simp [h1, h2, h3, h4, h5, h6]
theorem y_shpA_eql {C : World → Prop} {n : Nat} {env : Env} {d : Option Nat} {ty t' : TypeId} {ps : String} {af : Array Edge} {g : Option (Nat × Bool)} {x y : Operand} {m m' : Shp}
    (hx : ev env x = some (shpV m)) (hy : ev env y = some (shpV m')) : Yv Tryd.prog n env C ⟨d, .binOp .eql 23 x y t', ty, ps, af, g⟩ (.bool (decide (m = m'))) := fun a hA w _ => by
  simp only [execOp, hA.ev hx, hA.ev hy]
  refine run_bind (a := Value.bool (decide (m = m'))) (w' := w) ?_
  refine (run_bind (a := ()) (w' := w) (run_eqGuard_agg _ _ _ _ _ _ _ (by kernel_rfl))).trans ?_
  exact shpA_eql m m' w
theorem where_neq (x y : Int × Int) (w : World) : (binOp .neq 63 (.agg ⟨[i64 x.1, i64 x.2]⟩) (.agg ⟨[i64 y.1, i64 y.2]⟩)).run Tryd.prog w = .ok (.bool (!decide (x = y))) w := by
  obtain ⟨a, b⟩ := x
  obtain ⟨a', b'⟩ := y
  have u3 := Tryd.underlying3
  have a3 := Tryd.isAgg3
  have z3 := Tryd.sizeOf3
  have hS : Tryd.prog.underlying 63 = some (.struct (Tryd.prog.fieldsOf 63)) := by kernel_rfl
  rw [run_neq_struct, show (10000 : Nat) = 9999 + 1 from rfl, run_equalIn_agg w 9999 63 _ _ hS (by kernel_rfl)]
  simp only [Program.fieldsOf, Tryd.underlying63]
  go_simp
  by_cases h1 : a = a' <;> by_cases h2 : b = b' <;> simp [h1, h2]
theorem y_where_neq {C : World → Prop} {n : Nat} {env : Env} {d : Option Nat} {ty t' : TypeId} {ps : String} {af : Array Edge} {g : Option (Nat × Bool)} {x y : Operand} {m m' : Int × Int}
    (hx : ev env x = some (.agg ⟨[i64 m.1, i64 m.2]⟩)) (hy : ev env y = some (.agg ⟨[i64 m'.1, i64 m'.2]⟩)) : Yv Tryd.prog n env C ⟨d, .binOp .neq 63 x y t', ty, ps, af, g⟩ (.bool (!decide (m = m'))) := fun a hA w _ => by
  simp only [execOp, hA.ev hx, hA.ev hy]
  refine run_bind (a := Value.bool (!decide (m = m'))) (w' := w) ?_
  refine (run_bind (a := ()) (w' := w) (run_eqGuard_agg _ _ _ _ _ _ _ (by kernel_rfl))).trans ?_
  exact where_neq m m' w
/-- the shapes that have names -/
def presetQ (n : List UInt8) : Shp × Int :=
  if n = [116, 105, 110, 121] then (⟨3, 8, 2, 1, 1, 2⟩, 0) else if n = [115, 109, 97, 108, 108] then (⟨64, 64, 8, 2, 2, 16⟩, 0)
  else if n = [109, 101, 100, 105, 117, 109] then (⟨256, 256, 32, 4, 4, 96⟩, 0) else if n = [108, 97, 114, 103, 101] then (⟨512, 512, 64, 8, 8, 256⟩, 0) else (⟨0, 0, 0, 0, 0, 0⟩, 160)
theorem preset_ok {n : List UInt8} (h : (presetQ n).2 = 0) : okS (presetQ n).1 := by
  unfold presetQ at h ⊢
  (repeat' split at h) <;> first | (cases h; done) | (simp_all; decide)
set_option maxHeartbeats 4000000 in
theorem wPreset (n : List UInt8) (w : World) : CallsF Tryd.prog 30 [sv n] w fun r w' => r = .tuple #[shpV (presetQ n).1, i64 (presetQ n).2] ∧ Fr no w w' := by
  unfold presetQ
  refine callsF Tryd.func30 rfl rfl (by decide) rfl ?_
  refine sA [] rfl ?_
  refine ev_alloc rfl rfl inf23 (fun q w2 hq kq f2 => ?_)
  refine sC [] rfl ?_; refine sC [] rfl ?_; refine sC [] rfl ?_; refine sD [] rfl ?_
  by_cases c0 : n = [116, 105, 110, 121]
  · rw [show decide (n = [116, 105, 110, 121]) = true from decide_eq_true c0, if_pos c0]
    refine sA [] rfl ?_
    refine ev_build rfl rfl (v := shpV ⟨3, 8, 2, 1, 1, 2⟩) rfl (fun w => by kernel_rfl) ?_
    skip
    refine ev_storeAgg tabOk rfl rfl rfl rfl rfl rfl kq rfl (fun wz kz fz => ?_)
    refine sA [] rfl ?_
    exact retG tabOk (.inr rfl) rfl [shpV ⟨3, 8, 2, 1, 1, 2⟩, i64 0] ⟨⟨_, rfl, .inl ⟨rfl, _, rfl, rfl, Cs.of_blk kz⟩⟩, rfl, trivial⟩ ⟨rfl, f2.trans fz fun z hz e => by have : z = q := e; omega⟩
  rw [show decide (n = [116, 105, 110, 121]) = false from decide_eq_false c0, if_neg c0]
  refine sC [] rfl ?_; refine sD [] rfl ?_; refine sD [] rfl ?_
  by_cases c1 : n = [115, 109, 97, 108, 108]
  · rw [show decide (n = [115, 109, 97, 108, 108]) = true from decide_eq_true c1, if_pos c1]
    refine sA [] rfl ?_
    refine ev_build rfl rfl (v := shpV ⟨64, 64, 8, 2, 2, 16⟩) rfl (fun w => by kernel_rfl) ?_
    skip
    refine ev_storeAgg tabOk rfl rfl rfl rfl rfl rfl kq rfl (fun wz kz fz => ?_)
    refine sA [] rfl ?_
    exact retG tabOk (.inr rfl) rfl [shpV ⟨64, 64, 8, 2, 2, 16⟩, i64 0] ⟨⟨_, rfl, .inl ⟨rfl, _, rfl, rfl, Cs.of_blk kz⟩⟩, rfl, trivial⟩ ⟨rfl, f2.trans fz fun z hz e => by have : z = q := e; omega⟩
  rw [show decide (n = [115, 109, 97, 108, 108]) = false from decide_eq_false c1, if_neg c1]
  refine sC [] rfl ?_; refine sD [] rfl ?_; refine sD [] rfl ?_
  by_cases c2 : n = [109, 101, 100, 105, 117, 109]
  · rw [show decide (n = [109, 101, 100, 105, 117, 109]) = true from decide_eq_true c2, if_pos c2]
    refine sA [] rfl ?_
    refine ev_build rfl rfl (v := shpV ⟨256, 256, 32, 4, 4, 96⟩) rfl (fun w => by kernel_rfl) ?_
    skip
    refine ev_storeAgg tabOk rfl rfl rfl rfl rfl rfl kq rfl (fun wz kz fz => ?_)
    refine sA [] rfl ?_
    exact retG tabOk (.inr rfl) rfl [shpV ⟨256, 256, 32, 4, 4, 96⟩, i64 0] ⟨⟨_, rfl, .inl ⟨rfl, _, rfl, rfl, Cs.of_blk kz⟩⟩, rfl, trivial⟩ ⟨rfl, f2.trans fz fun z hz e => by have : z = q := e; omega⟩
  rw [show decide (n = [109, 101, 100, 105, 117, 109]) = false from decide_eq_false c2, if_neg c2]
  refine sC [] rfl ?_; refine sD [] rfl ?_; refine sD [] rfl ?_
  by_cases c3 : n = [108, 97, 114, 103, 101]
  · rw [show decide (n = [108, 97, 114, 103, 101]) = true from decide_eq_true c3, if_pos c3]
    refine sA [] rfl ?_
    refine ev_build rfl rfl (v := shpV ⟨512, 512, 64, 8, 8, 256⟩) rfl (fun w => by kernel_rfl) ?_
    skip
    refine ev_storeAgg tabOk rfl rfl rfl rfl rfl rfl kq rfl (fun wz kz fz => ?_)
    refine sA [] rfl ?_
    exact retG tabOk (.inr rfl) rfl [shpV ⟨512, 512, 64, 8, 8, 256⟩, i64 0] ⟨⟨_, rfl, .inl ⟨rfl, _, rfl, rfl, Cs.of_blk kz⟩⟩, rfl, trivial⟩ ⟨rfl, f2.trans fz fun z hz e => by have : z = q := e; omega⟩
  rw [show decide (n = [108, 97, 114, 103, 101]) = false from decide_eq_false c3, if_neg c3]
  refine sA [] rfl ?_
  refine ev_build rfl rfl (v := shpV ⟨0, 0, 0, 0, 0, 0⟩) rfl (fun w => by kernel_rfl) ?_
  skip
  refine ev_storeAgg tabOk rfl rfl rfl rfl rfl rfl kq rfl (fun wz kz fz => ?_)
  refine sA [] rfl ?_
  exact retG tabOk (.inr rfl) rfl [shpV ⟨0, 0, 0, 0, 0, 0⟩, i64 160] ⟨⟨_, rfl, .inl ⟨rfl, _, rfl, rfl, Cs.of_blk kz⟩⟩, rfl, trivial⟩ ⟨rfl, f2.trans fz fun z hz e => by have : z = q := e; omega⟩
set_option maxHeartbeats 4000000 in
theorem refPreset (n : List UInt8) (w : World) : CallsF Tryd.prog 31 [sv n] w fun r w' => r = .tuple #[shpV (presetQ n).1, i64 (presetQ n).2] ∧ Fr no w w' := by
  unfold presetQ
  refine callsF Tryd.func31 rfl rfl (by decide) rfl ?_
  refine sA [] rfl ?_
  refine ev_alloc rfl rfl inf30 (fun q w2 hq kq f2 => ?_)
  refine sC [] rfl ?_; refine sC [] rfl ?_; refine sC [] rfl ?_; refine sD [] rfl ?_
  by_cases c0 : n = [116, 105, 110, 121]
  · rw [show decide (n = [116, 105, 110, 121]) = true from decide_eq_true c0, if_pos c0]
    refine sA [] rfl ?_
    refine ev_build rfl rfl (v := shpV ⟨3, 8, 2, 1, 1, 2⟩) rfl (fun w => by kernel_rfl) ?_
    skip
    refine ev_storeAgg tabOk rfl rfl rfl rfl rfl rfl kq rfl (fun wz kz fz => ?_)
    refine sA [] rfl ?_
    exact retG tabOk (.inr rfl) rfl [shpV ⟨3, 8, 2, 1, 1, 2⟩, i64 0] ⟨⟨_, rfl, .inl ⟨rfl, _, rfl, rfl, Cs.of_blk kz⟩⟩, rfl, trivial⟩ ⟨rfl, f2.trans fz fun z hz e => by have : z = q := e; omega⟩
  rw [show decide (n = [116, 105, 110, 121]) = false from decide_eq_false c0, if_neg c0]
  refine sC [] rfl ?_; refine sD [] rfl ?_; refine sD [] rfl ?_
  by_cases c1 : n = [115, 109, 97, 108, 108]
  · rw [show decide (n = [115, 109, 97, 108, 108]) = true from decide_eq_true c1, if_pos c1]
    refine sA [] rfl ?_
    refine ev_build rfl rfl (v := shpV ⟨64, 64, 8, 2, 2, 16⟩) rfl (fun w => by kernel_rfl) ?_
    skip
    refine ev_storeAgg tabOk rfl rfl rfl rfl rfl rfl kq rfl (fun wz kz fz => ?_)
    refine sA [] rfl ?_
    exact retG tabOk (.inr rfl) rfl [shpV ⟨64, 64, 8, 2, 2, 16⟩, i64 0] ⟨⟨_, rfl, .inl ⟨rfl, _, rfl, rfl, Cs.of_blk kz⟩⟩, rfl, trivial⟩ ⟨rfl, f2.trans fz fun z hz e => by have : z = q := e; omega⟩
  rw [show decide (n = [115, 109, 97, 108, 108]) = false from decide_eq_false c1, if_neg c1]
  refine sC [] rfl ?_; refine sD [] rfl ?_; refine sD [] rfl ?_
  by_cases c2 : n = [109, 101, 100, 105, 117, 109]
  · rw [show decide (n = [109, 101, 100, 105, 117, 109]) = true from decide_eq_true c2, if_pos c2]
    refine sA [] rfl ?_
    refine ev_build rfl rfl (v := shpV ⟨256, 256, 32, 4, 4, 96⟩) rfl (fun w => by kernel_rfl) ?_
    skip
    refine ev_storeAgg tabOk rfl rfl rfl rfl rfl rfl kq rfl (fun wz kz fz => ?_)
    refine sA [] rfl ?_
    exact retG tabOk (.inr rfl) rfl [shpV ⟨256, 256, 32, 4, 4, 96⟩, i64 0] ⟨⟨_, rfl, .inl ⟨rfl, _, rfl, rfl, Cs.of_blk kz⟩⟩, rfl, trivial⟩ ⟨rfl, f2.trans fz fun z hz e => by have : z = q := e; omega⟩
  rw [show decide (n = [109, 101, 100, 105, 117, 109]) = false from decide_eq_false c2, if_neg c2]
  refine sC [] rfl ?_; refine sD [] rfl ?_; refine sD [] rfl ?_
  by_cases c3 : n = [108, 97, 114, 103, 101]
  · rw [show decide (n = [108, 97, 114, 103, 101]) = true from decide_eq_true c3, if_pos c3]
    refine sA [] rfl ?_
    refine ev_build rfl rfl (v := shpV ⟨512, 512, 64, 8, 8, 256⟩) rfl (fun w => by kernel_rfl) ?_
    skip
    refine ev_storeAgg tabOk rfl rfl rfl rfl rfl rfl kq rfl (fun wz kz fz => ?_)
    refine sA [] rfl ?_
    exact retG tabOk (.inr rfl) rfl [shpV ⟨512, 512, 64, 8, 8, 256⟩, i64 0] ⟨⟨_, rfl, .inl ⟨rfl, _, rfl, rfl, Cs.of_blk kz⟩⟩, rfl, trivial⟩ ⟨rfl, f2.trans fz fun z hz e => by have : z = q := e; omega⟩
  rw [show decide (n = [108, 97, 114, 103, 101]) = false from decide_eq_false c3, if_neg c3]
  refine sA [] rfl ?_
  refine ev_build rfl rfl (v := shpV ⟨0, 0, 0, 0, 0, 0⟩) rfl (fun w => by kernel_rfl) ?_
  skip
  refine ev_storeAgg tabOk rfl rfl rfl rfl rfl rfl kq rfl (fun wz kz fz => ?_)
  refine sA [] rfl ?_
  exact retG tabOk (.inr rfl) rfl [shpV ⟨0, 0, 0, 0, 0, 0⟩, i64 160] ⟨⟨_, rfl, .inl ⟨rfl, _, rfl, rfl, Cs.of_blk kz⟩⟩, rfl, trivial⟩ ⟨rfl, f2.trans fz fun z hz e => by have : z = q := e; omega⟩
end Go.Wk.YtfgllkflnkolhaaDoor
