/-
  The walk kit of this repo, part 10: regions that draw their order, all orders gone through: operations whose values are known by computation are taken at once, the others as they come up.
-/
import Derived.Test.YtdelgnflcfhhkaaGreatDoorEvs
import Derived.Orders
set_option linter.unusedVariables false
set_option linter.unusedSimpArgs false
namespace Go.Wk
open Go

def edgesIn (dn : List Nat) : List Edge → Bool
  | [] => true
  | e :: r => match Region.binds .any e with
    | true => match memN dn e.on with | true => edgesIn dn r | false => false
    | false => edgesIn dn r
def rdy (dn : List Nat) : Oper → Bool
  | ⟨_, _, _, _, ⟨es⟩, _⟩ => edgesIn dn es
def readyFrom (dn : List Nat) : Nat → List Oper → List Nat
  | _, [] => []
  | i, o :: r => match memN dn i with
    | true => readyFrom dn (i + 1) r
    | false => match rdy dn o with
      | true => i :: readyFrom dn (i + 1) r
      | false => readyFrom dn (i + 1) r
/-- what is listed -/
def Mt (L : List Oper) (dn : List Nat) (listed : Array Bool) : Prop := listed.size = L.length ∧ ∀ j, listed.getD j false = memN dn j

theorem memN_iff : ∀ (l : List Nat) (t : Nat), memN l t = true ↔ t ∈ l
  | [], t => by simp [memN]
  | x :: r, t => by
    simp only [memN]
    by_cases h : x = t
    · subst h; simp
    · have : Nat.beq x t = false := by
        cases hb : Nat.beq x t with
        | false => rfl
        | true => exact absurd (Nat.eq_of_beq_eq_true hb) h
      simp only [this, memN_iff r t, List.mem_cons]
      constructor
      · exact .inr
      · rintro (h' | h')
        · exact absurd h'.symm h
        · exact h'
theorem edgesIn_iff {dn : List Nat} : ∀ (es : List Edge), edgesIn dn es = true ↔ ∀ e ∈ es, Region.binds .any e = true → memN dn e.on = true
  | [] => by simp [edgesIn]
  | e :: r => by
    simp only [edgesIn, List.mem_cons, forall_eq_or_imp]
    cases h1 : Region.binds .any e
    · simpa using edgesIn_iff r
    · cases h2 : memN dn e.on
      · simp
      · simpa using edgesIn_iff r
theorem rdy_iff {dn : List Nat} {o : Oper} : rdy dn o = true ↔ ∀ e ∈ o.after, Region.binds .any e = true → memN dn e.on = true := by
  obtain ⟨d, op, ty, ps, ⟨es⟩, g⟩ := o
  simpa [rdy] using edgesIn_iff es
theorem mem_readyFrom {dn : List Nat} : ∀ (L : List Oper) (i j : Nat), j ∈ readyFrom dn i L ↔ i ≤ j ∧ memN dn j = false ∧ ∃ o, L[j - i]? = some o ∧ rdy dn o = true
  | [], i, j => by simp [readyFrom]
  | o :: r, i, j => by
    have ih := mem_readyFrom (dn := dn) r (i + 1) j
    have key : j ∈ readyFrom dn i (o :: r) ↔ (j = i ∧ memN dn i = false ∧ rdy dn o = true) ∨ j ∈ readyFrom dn (i + 1) r := by
      simp only [readyFrom]
      cases h1 : memN dn i <;> cases h2 : rdy dn o <;> simp
    rw [key, ih]
    constructor
    · rintro (⟨rfl, h1, h2⟩ | ⟨h1, h2, o', h3, h4⟩)
      · exact ⟨Nat.le_refl _, h1, o, by simp, h2⟩
      · refine ⟨by omega, h2, o', ?_, h4⟩
        have : j - i = (j - (i + 1)) + 1 := by omega
        rw [this]; simpa using h3
    · rintro ⟨h1, h2, o', h3, h4⟩
      by_cases h : j = i
      · subst h; simp at h3; subst h3; exact .inl ⟨rfl, h2, h4⟩
      · refine .inr ⟨by omega, h2, o', ?_, h4⟩
        have : j - i = (j - (i + 1)) + 1 := by omega
        rw [this] at h3; simpa using h3

theorem Mt.ready {L : List Oper} {dn : List Nat} {listed : Array Bool} (h : Mt L dn listed) (j : Nat) : j ∈ Region.ready .any L.toArray listed ↔ j ∈ readyFrom dn 0 L := by
  rw [mem_ready, mem_readyFrom]
  simp only [Nat.zero_le, Nat.sub_zero, true_and, List.getElem?_toArray]
  constructor
  · rintro ⟨h1, o, h2, h3⟩
    have hj : j < L.length := (List.getElem?_eq_some_iff.1 h2).1
    refine ⟨?_, o, h2, rdy_iff.2 fun e he hb => by rw [← h.2]; exact h3 e he hb⟩
    rw [← h.2 j]
    simp only [Array.getD, h.1, hj, ↓reduceDIte] at h1 ⊢
    exact h1
  · rintro ⟨h1, o, h2, h3⟩
    have hj : j < L.length := (List.getElem?_eq_some_iff.1 h2).1
    refine ⟨?_, o, h2, fun e he hb => by rw [h.2]; exact rdy_iff.1 h3 e he hb⟩
    rw [← h.2 j] at h1
    simp only [Array.getD, h.1, hj, ↓reduceDIte] at h1 ⊢
    exact h1
theorem Mt.set {L : List Oper} {dn : List Nat} {listed : Array Bool} (h : Mt L dn listed) {i : Nat} (hi : i < L.length) : Mt L (i :: dn) (listed.setIfInBounds i true) := by
  refine ⟨by simpa using h.1, fun j => ?_⟩
  by_cases hj : i = j
  · subst hj
    have : i < listed.size := by rw [h.1]; exact hi
    have e1 : memN (i :: dn) i = true := (memN_iff _ _).2 (by simp)
    rw [e1]
    simp [Array.getD, this]
  · rw [getD_set_ne false hj, h.2 j]
    have hb : Nat.beq i j = false := by
      cases hb : Nat.beq i j with
      | false => rfl
      | true => exact absurd (Nat.eq_of_beq_eq_true hb) hj
    simp [memN, hb]
theorem Mt.start (L : List Oper) : Mt L [] (Array.replicate L.length false) := by
  refine ⟨by simp, fun j => ?_⟩
  simp only [memN]
  by_cases h : j < L.length
  · simp [Array.getD, h]
  · simp [Array.getD, h]

/-- whatever order is picked from here on; `C` holds between operations -/
def wpAnyC (P : Program) (ops : Array Oper) (C : World → Prop) (Q : Exit → Act → World → Prop) : Nat → Array Bool → Act → World → Prop
  | 0, listed, a, w => C w ∧ Region.ready .any ops listed = [] ∧ Q .normal a w
  | fuel + 1, listed, a, w =>
    C w ∧ (Region.ready .any ops listed = [] → Q .normal a w) ∧
    ∀ i ∈ Region.ready .any ops listed, wpOp P ops Q i (wpAnyC P ops C Q fuel (listed.setIfInBounds i true)) a w
theorem wpAny_of_C {P : Program} {ops : Array Oper} {C : World → Prop} {Q : Exit → Act → World → Prop} : ∀ (fuel : Nat) (listed : Array Bool) (a : Act) (w : World), wpAnyC P ops C Q fuel listed a w → wpAny P .any ops Q fuel listed a w
  | 0, _, _, _, h => h.2
  | fuel + 1, _, _, _, h => ⟨h.2.1, fun i hi => wpOp_mono (fun a w => wpAny_of_C fuel _ a w) (h.2.2 i hi)⟩
theorem wpAnyC_holds {P : Program} {ops : Array Oper} {C : World → Prop} {Q : Exit → Act → World → Prop} : ∀ {fuel : Nat} {listed : Array Bool} {a : Act} {w : World}, wpAnyC P ops C Q fuel listed a w → C w
  | 0, _, _, _, h => h.1
  | _ + 1, _, _, _, h => h.1
/-- in every world of the class, an operation leaves `v` and the world -/
def YC (P : Program) (ops : Array Oper) (C : World → Prop) (o : Oper) (v : Value) (a : Act) : Prop :=
  (Region.wanted o (yielded ops a.tmps) = true ∧ ∀ w, C w → (execOp a.eval o).run P w = .ok (.value v) w) ∨ (Region.wanted o (yielded ops a.tmps) = false ∧ v = undef)
section
variable {P : Program} {ops : Array Oper} {C : World → Prop} {Q : Exit → Act → World → Prop}
theorem YC.op {i : Nat} {o : Oper} {v : Value} {a : Act} (hi : ops[i]? = some o) (hy : YC P ops C o v a) {K : Act → World → Prop} {w : World} (hw : C w) (h : K (a.put o.dst v) w) : wpOp P ops Q i K a w := by
  unfold wpOp
  rw [hi]
  rcases hy with ⟨h1, h2⟩ | ⟨h1, rfl⟩
  · simp only [h1, if_true]
    refine .inl ?_
    unfold Oper.wp
    rw [h2 w hw]; exact h
  · simp only [h1, Bool.false_eq_true, if_false]; exact h
/-- what does not look at it does not care when it is done -/
theorem YC.later {j : Nat} {x y : Oper} {v : Value} (hj : ops[j]? = some y) (hap : x.apart ops y = true) (hsx : ∀ cs b, x.op ≠ .select cs b) (hsy : ∀ cs b, y.op ≠ .select cs b)
    (hQ : ∀ c a w, Q (.panic c) (a.put x.dst v) w → Q (.panic c) a w) {K : Act → World → Prop} {a : Act} {w : World} (hy : YC P ops C x v a) (h : wpOp P ops Q j K (a.put x.dst v) w) :
    wpOp P ops Q j (fun a' w' => YC P ops C x v a' ∧ K (a'.put x.dst v) w') a w := by
  obtain ⟨a1, a2, a3⟩ := Oper.apart_spec hap
  have stay : ∀ (b : Act) (u : Value), YC P ops C x v b → YC P ops C x v (b.put y.dst u) := fun b u hb => by
    unfold YC at *
    rw [execOp_put x hsx b y.dst u a3, wanted_put x b y.dst u a3]; exact hb
  have next : ∀ (u : Value) (w' : World), K ((a.put x.dst v).put y.dst u) w' → YC P ops C x v (a.put y.dst u) ∧ K ((a.put y.dst u).put x.dst v) w' := fun u w' hk =>
    ⟨stay a u hy, by rw [← Act.put_comm a v u a2]; exact hk⟩
  unfold wpOp at h ⊢
  rw [hj] at h ⊢
  simp only [wanted_put y a x.dst v a1] at h
  simp only at h ⊢
  split
  · rename_i hw
    rw [if_pos hw] at h
    unfold Oper.wp Oper.asks at h
    unfold Oper.wp Oper.asks
    rw [execOp_put y hsy a x.dst v a1] at h
    rcases h with h | h
    · refine .inl ?_
      generalize (execOp a.eval y).run P w = r at h ⊢
      cases r with
      | ok nx w' =>
        cases nx with
        | value u => exact next u w' h
        | skip => exact next undef w' h
        | defer d =>
          have hy' : YC P ops C x v { a with defers := d :: a.defers } := hy
          refine ⟨stay _ _ hy', ?_⟩
          rw [← Act.put_comm _ v undef a2, ← Act.put_defers]
          exact h
        | enter f args =>
          refine Calls.mono h fun e w'' he => ?_
          cases e with
          | returned u => exact next u w'' he
          | panicked c => exact hQ _ _ _ he
          | outgrown => exact he
        | row r args => exact Rows.mono h fun u w'' he => next u w'' he
        | _ => exact h
      | halt z w' =>
        cases z with
        | panic u => exact hQ _ _ _ h
        | _ => exact h
    · exact .inr h
  · rename_i hw
    rw [if_neg hw] at h
    exact next undef w h
theorem wpAnyC_first {i : Nat} {x : Oper} {v : Value} (hi : ops[i]? = some x) (hsel : ∀ (j : Nat) (o : Oper) cs b, ops[j]? = some o → o.op ≠ .select cs b)
    (hQ : ∀ c a w, Q (.panic c) (a.put x.dst v) w → Q (.panic c) a w) :
    ∀ (fuel : Nat) (listed : Array Bool) (a : Act) (w : World),
      (∀ j y, ops[j]? = some y → j ≠ i → listed.getD j true = false → (∀ e ∈ y.after, Region.binds .any e = true → e.on ≠ i) → x.apart ops y = true) →
      i ∈ Region.ready .any ops listed → YC P ops C x v a → wpAnyC P ops C Q fuel (listed.setIfInBounds i true) (a.put x.dst v) w → wpAnyC P ops C Q (fuel + 1) listed a w := by
  intro fuel
  induction fuel with
  | zero =>
    intro listed a w _ hr hy H
    refine ⟨H.1, fun h => (by rw [h] at hr; cases hr), fun j hj => ?_⟩
    by_cases hji : j = i
    · subst hji; exact hy.op hi H.1 H
    · have := ready_mono hj hji
      rw [H.2.1] at this; cases this
  | succ fuel ih =>
    intro listed a w hfree hr hy H
    refine ⟨H.1, fun h => (by rw [h] at hr; cases hr), fun j hj => ?_⟩
    by_cases hji : j = i
    · subst hji; exact hy.op hi H.1 H
    · obtain ⟨hjun, y, hoj, hall⟩ := mem_ready.1 hj
      have hun := (mem_ready.1 hr).1
      have hnot : ∀ e ∈ y.after, Region.binds .any e = true → e.on ≠ i := fun e he hb heq => by
        have h1 := hall e he hb
        rw [heq] at h1
        unfold Array.getD at h1 hun
        split at h1
        · rename_i hlt
          rw [dif_pos hlt] at hun
          rw [h1] at hun; cases hun
        · cases h1
      have h2 := YC.later hoj (hfree j y hoj hji hjun hnot) (fun cs b => hsel i x cs b hi) (fun cs b => hsel j y cs b hoj) hQ hy (H.2.2 j (ready_mono hj hji))
      refine wpOp_mono (fun a' w' h3 => ih (listed.setIfInBounds j true) a' w' (fun k z hk hki hunk hno => hfree k z hk hki ?_ hno) (ready_mono hr (Ne.symm hji)) h3.1 ?_) h2
      · by_cases hjk : j = k
        · subst hjk; exact hjun
        · rw [getD_set_ne true hjk] at hunk; exact hunk
      · rw [Array.setIfInBounds_comm _ _ hji]
        exact h3.2
end
def anyS (P : Program) (C : World → Prop) (Q : Exit → Act → World → Prop) (L : List Oper) (f : Nat) (dn : List Nat) (a : Act) (w : World) : Prop :=
  C w ∧ ∀ listed, Mt L dn listed → wpAnyC P L.toArray C Q f listed a w

theorem semK_panic {P : Program} {fn : Func} {R : Ending → World → Prop} {c : List PanicEntry} {a : Act} {w : World} : ∀ (k : List It), semK P fn R k (.panic c) a w = (a.defers = [] ∧ R (.panicked c) w)
  | [] => rfl
  | .code _ :: k => (Exit.then_other (by simp)).trans (semK_panic k)
  | .blk _ :: k => (Exit.inBlock_other (by simp)).trans (semK_panic k)
  | .ops _ _ :: k => (Exit.then_other (by simp)).trans (semK_panic k)
  | .inv _ :: k => (Exit.then_other (by simp)).trans (semK_panic k)
  | .rnd _ _ :: k => (Exit.then_other (by simp)).trans (semK_panic k)
  | .jmp _ _ :: k => semK_panic k

def apartAll (L : List Oper) (dn : List Nat) (i : Nat) : Bool :=
  match L[i]? with
  | none => false
  | some oi => (List.range L.length).all fun j => j == i || memN dn j || match L[j]? with
      | some oj => oj.after.any (fun e => Region.binds .any e && e.on == i) || oi.apart L.toArray oj
      | none => true
def freeAll (L : List Oper) : List Nat → List Nat → Bool
  | _, [] => true
  | dn, i :: r => apartAll L dn i && freeAll L (i :: dn) r
theorem apartAll_free {L : List Oper} {dn : List Nat} {listed : Array Bool} {i : Nat} (hM : Mt L dn listed) (h : apartAll L dn i = true) : Region.free .any L.toArray listed i = true := by
  unfold apartAll at h
  unfold Region.free
  simp only [List.getElem?_toArray, List.size_toArray]
  split at h
  · cases h
  · rename_i oi hoi
    simp only [hoi]
    rw [List.all_eq_true] at h ⊢
    intro j hj
    have h1 := h j hj
    have hjl : j < L.length := List.mem_range.1 hj
    have e1 : listed.getD j true = memN dn j := by
      rw [← hM.2 j]
      simp [Array.getD, hM.1, hjl]
    rw [e1]
    exact h1

def pickN (tab : Tab) (n : Nat) (L : List Oper) (env : Env) (dn : List Nat) : Nat → List Oper → Option (Nat × Env)
  | _, [] => none
  | i, o :: r => match memN dn i with
    | true => pickN tab n L env dn (i + 1) r
    | false => match rdy dn o with
      | true => match opStep tab n L env o with
        | some env' => some (i, env')
        | none => pickN tab n L env dn (i + 1) r
      | false => pickN tab n L env dn (i + 1) r
def runN (tab : Tab) (n : Nat) (L : List Oper) : Nat → Nat → List Nat → Env → List Nat × Nat × List Nat × Env
  | 0, f, dn, env => ([], f, dn, env)
  | _, 0, dn, env => ([], 0, dn, env)
  | m + 1, f + 1, dn, env => match pickN tab n L env dn 0 L with
    | some (i, env') => match runN tab n L m f (i :: dn) env' with
      | (is, f', dn', e') => (i :: is, f', dn', e')
    | none => ([], f + 1, dn, env)
theorem pickN_ok {tab : Tab} {n : Nat} {L : List Oper} {env : Env} {dn : List Nat} : ∀ (l : List Oper) (i : Nat) {j : Nat} {env' : Env}, pickN tab n L env dn i l = some (j, env') →
    i ≤ j ∧ memN dn j = false ∧ ∃ o, l[j - i]? = some o ∧ rdy dn o = true ∧ opStep tab n L env o = some env'
  | [], i, j, env', h => by cases h
  | o :: r, i, j, env', h => by
    have next : pickN tab n L env dn (i + 1) r = some (j, env') → i ≤ j ∧ memN dn j = false ∧ ∃ o', (o :: r)[j - i]? = some o' ∧ rdy dn o' = true ∧ opStep tab n L env o' = some env' := fun h => by
      obtain ⟨h1, h2, o', h3, h4⟩ := pickN_ok r (i + 1) h
      refine ⟨by omega, h2, o', ?_, h4⟩
      have : j - i = (j - (i + 1)) + 1 := by omega
      rw [this]; simpa using h3
    simp only [pickN] at h
    cases h1 : memN dn i <;> simp only [h1] at h
    · cases h2 : rdy dn o <;> simp only [h2] at h
      · exact next h
      · cases h3 : opStep tab n L env o <;> simp only [h3] at h
        · exact next h
        · cases h; exact ⟨Nat.le_refl _, h1, o, by simp, h2, h3⟩
    · exact next h

section
variable {P : Program} {fn : Func} {R : Ending → World → Prop} {n : Nat} {tab : Tab} {w : World} {k : List It} {C : World → Prop}
theorem any_take (hT : TabOk P tab) {L : List Oper} {f : Nat} {dn : List Nat} {i : Nat} {o : Oper} {env env' : Env} (hs : Region.noSelect L.toArray = true) (hi : L[i]? = some o) (hn : memN dn i = false) (hr : rdy dn o = true) (hf : apartAll L dn i = true)
    (hop : opStep tab n L env o = some env') (h : ∀ a, Ag n a env' → anyS P C (semK P fn R k) L f (i :: dn) a w) : ∀ a, Ag n a env → anyS P C (semK P fn R k) L (f + 1) dn a w := by
  intro a hA
  have hil : i < L.length := (List.getElem?_eq_some_iff.1 hi).1
  have hQ : ∀ d : Option Nat, ∀ v, ∀ c a w, semK P fn R k (.panic c) (a.put d v) w → semK P fn R k (.panic c) a w := fun d v c a w h => by
    rw [semK_panic] at h ⊢
    refine ⟨?_, h.2⟩
    have := h.1
    cases d <;> exact this
  have go : ∀ v : Value, YC P L.toArray C o v a → Ag n (a.put o.dst v) env' → anyS P C (semK P fn R k) L (f + 1) dn a w := fun v hy hA' =>
    ⟨(h _ hA').1, fun listed hM => wpAnyC_first (by simpa using hi) (Region.noSelect_spec hs) (hQ _ _) f listed a w (Region.free_spec (by simpa using hi) (apartAll_free hM hf))
      ((hM.ready i).2 ((mem_readyFrom _ _ _).2 ⟨Nat.zero_le _, hn, o, by simpa using hi, hr⟩)) hy ((h _ hA').2 _ (hM.set hil))⟩
  unfold opStep at hop
  split at hop
  · rename_i d op ty ps af g
    split at hop
    · rename_i hd
      have hd' : d < n := Nat.le_of_ble_eq_true hd
      split at hop
      · rename_i hg
        have hw := guardOf_ok (o := ⟨some d, op, ty, ps, af, g⟩) hg hA
        split at hop
        · rename_i v hv
          cases hop
          exact go v (.inl ⟨hw, fun w _ => pureVal_ok hT hA (o := ⟨some d, op, ty, ps, af, g⟩) hv w⟩) (hA.put hd' v)
        · cases hop
      · rename_i hg
        have hw := guardOf_ok (o := ⟨some d, op, ty, ps, af, g⟩) hg hA
        cases hop
        exact go undef (.inr ⟨hw, rfl⟩) (hA.put hd' undef)
      · cases hop
    · cases hop
  · rename_i op ty ps af g
    split at hop
    · rename_i hg
      have hw := guardOf_ok (o := ⟨none, op, ty, ps, af, g⟩) hg hA
      cases hop
      exact go undef (.inr ⟨hw, rfl⟩) hA
    · cases hop

theorem runN_ok (hT : TabOk P tab) {L : List Oper} (hs : Region.noSelect L.toArray = true) : ∀ (m f : Nat) (dn : List Nat) (env : Env) {is : List Nat} {f' : Nat} {dn' : List Nat} {env' : Env}, runN tab n L m f dn env = (is, f', dn', env') →
    freeAll L dn is = true → (∀ a, Ag n a env' → anyS P C (semK P fn R k) L f' dn' a w) → ∀ a, Ag n a env → anyS P C (semK P fn R k) L f dn a w
  | 0, f, dn, env, is, f', dn', env', h, hf, hk => by cases h; exact hk
  | m + 1, 0, dn, env, is, f', dn', env', h, hf, hk => by cases h; exact hk
  | m + 1, f + 1, dn, env, is, f', dn', env', h, hf, hk => by
    simp only [runN] at h
    split at h
    · rename_i i e1 hp
      obtain ⟨_, hn, o, hi, hr, hop⟩ := pickN_ok _ _ hp
      simp only [Prod.mk.injEq] at h
      obtain ⟨rfl, rfl, rfl, rfl⟩ := h
      simp only [freeAll, Bool.and_eq_true] at hf
      exact any_take hT hs (by simpa using hi) hn hr hf.1 hop (runN_ok hT hs m f (i :: dn) e1 rfl hf.2 hk)
    · cases h; exact hk

/-- a region that draws its order: gone into -/
theorem mixC_in (C : World → Prop) {env : Env} {id : Nat} {l : List Oper} (hm : P.follows .mixedOrders = true) (h : ∀ w', Fr no w w' → H P fn R n (.inv (anyS P C (semK P fn R k) l l.length []) :: k) .normal env w') : H P fn R n (.code (.region id ⟨l⟩ true) :: k) .normal env w :=
  fun a hA => wp_region_any hm (by simpa using wpAny_of_C _ _ _ _ ((h _ (Fr.draw w) a hA).2 _ (Mt.start l)))
theorem mix_in {env : Env} {id : Nat} {l : List Oper} (hm : P.follows .mixedOrders = true) (h : ∀ w', Fr no w w' → H P fn R n (.inv (anyS P (fun _ => True) (semK P fn R k) l l.length []) :: k) .normal env w') : H P fn R n (.code (.region id ⟨l⟩ true) :: k) .normal env w := mixC_in _ hm h
/-- the operations that are known by computation -/
theorem mix_run {L : List Oper} (m : Nat) (hT : TabOk P tab) {f : Nat} {dn : List Nat} {env : Env} {i : Nat} {is : List Nat} {f' : Nat} {dn' : List Nat} {env' : Env} (h : runN tab n L m f dn env = (i :: is, f', dn', env'))
    (hs : Region.noSelect L.toArray = true) (hf : freeAll L dn (i :: is) = true) (hk : H P fn R n (.inv (anyS P C (semK P fn R k) L f' dn') :: k) .normal env' w) : H P fn R n (.inv (anyS P C (semK P fn R k) L f dn) :: k) .normal env w :=
  runN_ok hT hs m f dn env h hf hk
theorem mix_out {L : List Oper} {f : Nat} {dn : List Nat} {env : Env} (hr : readyFrom dn 0 L = []) (hk : H P fn R n k .normal env w) (hC : C w := by trivial) : H P fn R n (.inv (anyS P C (semK P fn R k) L f dn) :: k) .normal env w := fun a hA => ⟨hC, fun listed hM => by
  have h0 : Region.ready .any L.toArray listed = [] := List.eq_nil_iff_forall_not_mem.2 fun j hj => by have := (hM.ready j).1 hj; rw [hr] at this; cases this
  cases f with
  | zero => exact ⟨hC, h0, hk a hA⟩
  | succ f => exact ⟨hC, fun _ => hk a hA, by rw [h0]; simp⟩⟩
theorem mix_any {L : List Oper} {f : Nat} {dn : List Nat} {env : Env} {i : Nat} {is : List Nat} (hr : readyFrom dn 0 L = i :: is)
    (hk : ∀ j ∈ i :: is, ∀ o, nthO L j = some o → H P fn R n (.ops L [o] :: .inv (anyS P C (semK P fn R k) L f (j :: dn)) :: k) .normal env w) (hC : C w := by trivial) : H P fn R n (.inv (anyS P C (semK P fn R k) L (f + 1) dn) :: k) .normal env w := fun a hA => ⟨hC, fun listed hM => by
  refine ⟨hC, fun h0 => ?_, fun j hj => ?_⟩
  · have : i ∈ Region.ready .any L.toArray listed := (hM.ready i).2 (by rw [hr]; simp)
    rw [h0] at this; cases this
  · have hj' := (hM.ready j).1 hj
    obtain ⟨_, hn, o, hi, hrd⟩ := (mem_readyFrom _ _ _).1 hj'
    rw [hr] at hj'
    simp only [Nat.sub_zero] at hi
    have hjl : j < L.length := (List.getElem?_eq_some_iff.1 hi).1
    have h := hk j hj' o (by rw [nthO_eq]; exact hi) a hA
    have h : wpList P L.toArray (semK P fn R (.inv (anyS P C (semK P fn R k) L f (j :: dn)) :: k)) [o] a w := h
    unfold wpOp
    simp only [List.getElem?_toArray, hi]
    have hlet : LetsOut (semK P fn R (.inv (anyS P C (semK P fn R k) L f (j :: dn)) :: k)) → LetsOut (semK P fn R k) := fun ⟨a, w, h⟩ => ⟨a, w, by
      rwa [show semK P fn R (.inv (anyS P C (semK P fn R k) L f (j :: dn)) :: k) .outgrown a w = semK P fn R k .outgrown a w from Exit.then_other (by simp)] at h⟩
    have hpan : ∀ c a w, semK P fn R (.inv (anyS P C (semK P fn R k) L f (j :: dn)) :: k) (.panic c) a w → semK P fn R k (.panic c) a w := fun c a w h => by
      rw [semK_panic] at h ⊢; exact h
    have hnext : ∀ a w, wpList P L.toArray (semK P fn R (.inv (anyS P C (semK P fn R k) L f (j :: dn)) :: k)) [] a w → wpAnyC P L.toArray C (semK P fn R k) f (listed.setIfInBounds j true) a w := fun a w h =>
      (show anyS P C (semK P fn R k) L f (j :: dn) a w from h).2 _ (hM.set hjl)
    unfold wpList at h
    split at h
    · rename_i hw
      rw [if_pos hw]
      rcases h with h | ⟨h1, h2⟩
      · refine .inl ?_
        unfold Oper.wp at h ⊢
        generalize (execOp a.eval o).run P w = r at *
        cases r with
        | ok nx w' =>
          cases nx <;> simp only [Oper.upon] at h ⊢ <;>
            first
              | exact hnext _ _ h
              | exact Calls.mono h (fun e w'' he => by cases e <;> first | exact hnext _ _ he | exact hpan _ _ _ he | exact hlet he)
              | exact Rows.mono h (fun _ _ he => hnext _ _ he)
        | halt x w' => cases x <;> simp only [Oper.upon] at h ⊢ <;> exact hpan _ _ _ h
      · exact .inr ⟨h1, hlet h2⟩
    · rename_i hw
      rw [if_neg hw]
      exact hnext _ _ h⟩
theorem mix1 {L : List Oper} {f : Nat} {dn : List Nat} {env : Env} {i : Nat} {o : Oper} (hr : readyFrom dn 0 L = [i]) (h1 : nthO L i = some o)
    (hk : H P fn R n (.ops L [o] :: .inv (anyS P C (semK P fn R k) L f (i :: dn)) :: k) .normal env w) (hC : C w := by trivial) : H P fn R n (.inv (anyS P C (semK P fn R k) L (f + 1) dn) :: k) .normal env w :=
  mix_any hr (hC := hC) fun j hj o' ho' => by
    simp only [List.mem_cons, List.not_mem_nil, or_false] at hj
    subst hj; rw [h1] at ho'; cases ho'; exact hk
theorem mix2 {L : List Oper} {f : Nat} {dn : List Nat} {env : Env} {i j : Nat} {o p : Oper} (hr : readyFrom dn 0 L = [i, j]) (h1 : nthO L i = some o) (h2 : nthO L j = some p)
    (hk : H P fn R n (.ops L [o] :: .inv (anyS P C (semK P fn R k) L f (i :: dn)) :: k) .normal env w) (hk2 : H P fn R n (.ops L [p] :: .inv (anyS P C (semK P fn R k) L f (j :: dn)) :: k) .normal env w) (hC : C w := by trivial) : H P fn R n (.inv (anyS P C (semK P fn R k) L (f + 1) dn) :: k) .normal env w :=
  mix_any hr (hC := hC) fun j hj o' ho' => by
    simp only [List.mem_cons, List.not_mem_nil, or_false] at hj
    rcases hj with rfl | rfl
    · rw [h1] at ho'; cases ho'; exact hk
    · rw [h2] at ho'; cases ho'; exact hk2
theorem mix3 {L : List Oper} {f : Nat} {dn : List Nat} {env : Env} {i j q : Nat} {o p r : Oper} (hr : readyFrom dn 0 L = [i, j, q]) (h1 : nthO L i = some o) (h2 : nthO L j = some p) (h3 : nthO L q = some r)
    (hk : H P fn R n (.ops L [o] :: .inv (anyS P C (semK P fn R k) L f (i :: dn)) :: k) .normal env w) (hk2 : H P fn R n (.ops L [p] :: .inv (anyS P C (semK P fn R k) L f (j :: dn)) :: k) .normal env w)
    (hk3 : H P fn R n (.ops L [r] :: .inv (anyS P C (semK P fn R k) L f (q :: dn)) :: k) .normal env w) (hC : C w := by trivial) : H P fn R n (.inv (anyS P C (semK P fn R k) L (f + 1) dn) :: k) .normal env w :=
  mix_any hr (hC := hC) fun j hj o' ho' => by
    simp only [List.mem_cons, List.not_mem_nil, or_false] at hj
    rcases hj with rfl | rfl | rfl
    · rw [h1] at ho'; cases ho'; exact hk
    · rw [h2] at ho'; cases ho'; exact hk2
    · rw [h3] at ho'; cases ho'; exact hk3
/-- an operation that yields this in every world: taken at once -/
theorem mix_y {L : List Oper} {f : Nat} {dn : List Nat} {env : Env} (i : Nat) {d : Nat} {op : Op} {ty : TypeId} {ps : String} {af : Array Edge} {g : Option (Nat × Bool)} {v : Value}
    (hi : nthO L i = some ⟨some d, op, ty, ps, af, g⟩) (hn : memN dn i = false) (hr : rdy dn ⟨some d, op, ty, ps, af, g⟩ = true) (hs : Region.noSelect L.toArray = true) (hf : apartAll L dn i = true)
    (hg : guardOf L env g = some true) (hd : Nat.blt d n = true) (hy : Yv P n env C ⟨some d, op, ty, ps, af, g⟩ v)
    (hk : H P fn R n (.inv (anyS P C (semK P fn R k) L f (i :: dn)) :: k) .normal ((d, v) :: env) w) : H P fn R n (.inv (anyS P C (semK P fn R k) L (f + 1) dn) :: k) .normal env w := by
  intro a hA
  rw [nthO_eq] at hi
  have hil : i < L.length := (List.getElem?_eq_some_iff.1 hi).1
  have hd' : d < n := Nat.le_of_ble_eq_true hd
  have hw := guardOf_ok (o := ⟨some d, op, ty, ps, af, g⟩) hg hA
  have hk' := hk _ (hA.put hd' v)
  refine ⟨hk'.1, fun listed hM => wpAnyC_first (by simpa using hi) (Region.noSelect_spec hs) (fun c a w h => ?_) f listed a w (Region.free_spec (by simpa using hi) (apartAll_free hM hf))
    ((hM.ready i).2 ((mem_readyFrom _ _ _).2 ⟨Nat.zero_le _, hn, _, by simpa using hi, hr⟩)) (.inl ⟨hw, fun w hw' => hy a hA w hw'⟩) (hk'.2 _ (hM.set hil))⟩
  rw [semK_panic] at h ⊢
  exact h
/-- the one operation is over -/
theorem mix_op {L : List Oper} {J : Act → World → Prop} {env : Env} (h : H P fn R n (.inv J :: k) .normal env w) : H P fn R n (.ops L [] :: .inv J :: k) .normal env w := h
end
end Go.Wk
namespace Go.Wk
open Go Go.Lib
section
variable {P : Program} {fn : Func} {R : Ending → World → Prop} {n : Nat} {w : World} {C : World → Prop} {tab : Tab} {k : List It} {env : Env} {L : List Oper} {f : Nat} {dn : List Nat} {d : Nat} {ty : TypeId} {ps : String} {af : Array Edge} {g : Option (Nat × Bool)}

theorem m_load {t : TypeId} {x : Operand} {p : Addr} {v : Value} (q : Nat) (mi : nthO L q = some ⟨some d, .load t x, ty, ps, af, g⟩) (mn : memN dn q = false) (mr : rdy dn ⟨some d, .load t x, ty, ps, af, g⟩ = true) (ms : Region.noSelect L.toArray = true) (mf : apartAll L dn q = true) (hg : guardOf L env g = some true) (hd : Nat.blt d n = true) (hT : TabOk P tab) (hx : ev env x = some (.pointer (some p))) (hag : aggT (tyAt tab t) = some false) (hc : ∀ w, C w → w.cell? p = some v)
    (hk : H P fn R n (.inv (anyS P C (semK P fn R k) L f (q :: dn)) :: k) .normal ((d, v) :: env) w) : H P fn R n (.inv (anyS P C (semK P fn R k) L (f + 1) dn) :: k) .normal env w :=
  mix_y q mi mn mr ms mf hg hd (y_load hT hx hag hc) hk
theorem m_loadAgg {t : TypeId} {x : Operand} {p : Addr} {xs : List Value} (q : Nat) (mi : nthO L q = some ⟨some d, .load t x, ty, ps, af, g⟩) (mn : memN dn q = false) (mr : rdy dn ⟨some d, .load t x, ty, ps, af, g⟩ = true) (ms : Region.noSelect L.toArray = true) (mf : apartAll L dn q = true) (hg : guardOf L env g = some true) (hd : Nat.blt d n = true) (hT : TabOk P tab) (hx : ev env x = some (.pointer (some p))) (hag : aggT (tyAt tab t) = some true) (hs : szAt tab t = xs.length) (hc : ∀ w, C w → Cs w (some p) xs)
    (hk : H P fn R n (.inv (anyS P C (semK P fn R k) L f (q :: dn)) :: k) .normal ((d, (.agg ⟨xs⟩)) :: env) w) : H P fn R n (.inv (anyS P C (semK P fn R k) L (f + 1) dn) :: k) .normal env w :=
  mix_y q mi mn mr ms mf hg hd (y_loadAgg hT hx hag hs hc) hk
theorem m_index {t : TypeId} {x y : Operand} {s : List UInt8} {kd : IntKind} {i : Int} (q : Nat) (mi : nthO L q = some ⟨some d, .index t x y, ty, ps, af, g⟩) (mn : memN dn q = false) (mr : rdy dn ⟨some d, .index t x y, ty, ps, af, g⟩ = true) (ms : Region.noSelect L.toArray = true) (mf : apartAll L dn q = true) (hg : guardOf L env g = some true) (hd : Nat.blt d n = true) (hT : TabOk P tab) (hx : ev env x = some (.string (sOf s))) (hy : ev env y = some (.int kd i)) (hty : tyAt tab t = .str) (h0 : 0 ≤ i) (h1 : i < s.length)
    (hk : H P fn R n (.inv (anyS P C (semK P fn R k) L f (q :: dn)) :: k) .normal ((d, (bv (s.getD i.toNat 0))) :: env) w) : H P fn R n (.inv (anyS P C (semK P fn R k) L (f + 1) dn) :: k) .normal env w :=
  mix_y q mi mn mr ms mf hg hd (y_index hT hx hy hty h0 h1) hk
theorem m_indexA {t : TypeId} {x y : Operand} {cs : List Value} {kd : IntKind} {i : Int} {len e s : Nat} {b : Bool} {v : Value} (q : Nat) (mi : nthO L q = some ⟨some d, .index t x y, ty, ps, af, g⟩) (mn : memN dn q = false) (mr : rdy dn ⟨some d, .index t x y, ty, ps, af, g⟩ = true) (ms : Region.noSelect L.toArray = true) (mf : apartAll L dn q = true) (hg : guardOf L env g = some true) (hd : Nat.blt d n = true) (hT : TabOk P tab) (hx : ev env x = some (.agg ⟨cs⟩)) (hy : ev env y = some (.int kd i)) (hty : tyAt tab t = .arr len e s b) (h0 : 0 ≤ i) (h1 : i < len) (hv : partV cs (i.toNat * s) s b = some v)
    (hk : H P fn R n (.inv (anyS P C (semK P fn R k) L f (q :: dn)) :: k) .normal ((d, v) :: env) w) : H P fn R n (.inv (anyS P C (semK P fn R k) L (f + 1) dn) :: k) .normal env w :=
  mix_y q mi mn mr ms mf hg hd (y_indexA hT hx hy hty h0 h1 hv) hk
theorem m_arith {op : BinOp} {t t' : TypeId} {x y : Operand} {kd : IntKind} {a b r : Int} (q : Nat) (mi : nthO L q = some ⟨some d, .binOp op t x y t', ty, ps, af, g⟩) (mn : memN dn q = false) (mr : rdy dn ⟨some d, .binOp op t x y t', ty, ps, af, g⟩ = true) (ms : Region.noSelect L.toArray = true) (mf : apartAll L dn q = true) (hg : guardOf L env g = some true) (hd : Nat.blt d n = true) (hx : ev env x = some (.int kd a)) (hy : ev env y = some (.int kd b)) (hr : arithV op a b = some r) (h1 : lowK kd ≤ r ∧ r ≤ hiK kd)
    (hk : H P fn R n (.inv (anyS P C (semK P fn R k) L f (q :: dn)) :: k) .normal ((d, (.int kd r)) :: env) w) : H P fn R n (.inv (anyS P C (semK P fn R k) L (f + 1) dn) :: k) .normal env w :=
  mix_y q mi mn mr ms mf hg hd (y_arith hx hy hr h1) hk
theorem m_arithW {op : BinOp} {t t' : TypeId} {x y : Operand} {kd : IntKind} {a b r : Int} (q : Nat) (mi : nthO L q = some ⟨some d, .binOp op t x y t', ty, ps, af, g⟩) (mn : memN dn q = false) (mr : rdy dn ⟨some d, .binOp op t x y t', ty, ps, af, g⟩ = true) (ms : Region.noSelect L.toArray = true) (mf : apartAll L dn q = true) (hg : guardOf L env g = some true) (hd : Nat.blt d n = true) (hx : ev env x = some (.int kd a)) (hy : ev env y = some (.int kd b)) (hr : arithV op a b = some r)
    (hk : H P fn R n (.inv (anyS P C (semK P fn R k) L f (q :: dn)) :: k) .normal ((d, (.int kd (kd.wrap r))) :: env) w) : H P fn R n (.inv (anyS P C (semK P fn R k) L (f + 1) dn) :: k) .normal env w :=
  mix_y q mi mn mr ms mf hg hd (y_arithW hx hy hr) hk
theorem m_quo {t t' : TypeId} {x y : Operand} {kd : IntKind} {a b : Int} (q : Nat) (mi : nthO L q = some ⟨some d, .binOp .quo t x y t', ty, ps, af, g⟩) (mn : memN dn q = false) (mr : rdy dn ⟨some d, .binOp .quo t x y t', ty, ps, af, g⟩ = true) (ms : Region.noSelect L.toArray = true) (mf : apartAll L dn q = true) (hg : guardOf L env g = some true) (hd : Nat.blt d n = true) (hx : ev env x = some (.int kd a)) (hy : ev env y = some (.int kd b)) (h0 : 0 ≤ a) (hb : 0 < b) (h2 : a ≤ hiK kd)
    (hk : H P fn R n (.inv (anyS P C (semK P fn R k) L f (q :: dn)) :: k) .normal ((d, (.int kd (a / b))) :: env) w) : H P fn R n (.inv (anyS P C (semK P fn R k) L (f + 1) dn) :: k) .normal env w :=
  mix_y q mi mn mr ms mf hg hd (y_quo hx hy h0 hb h2) hk
theorem m_rem {t t' : TypeId} {x y : Operand} {kd : IntKind} {a b : Int} (q : Nat) (mi : nthO L q = some ⟨some d, .binOp .rem t x y t', ty, ps, af, g⟩) (mn : memN dn q = false) (mr : rdy dn ⟨some d, .binOp .rem t x y t', ty, ps, af, g⟩ = true) (ms : Region.noSelect L.toArray = true) (mf : apartAll L dn q = true) (hg : guardOf L env g = some true) (hd : Nat.blt d n = true) (hx : ev env x = some (.int kd a)) (hy : ev env y = some (.int kd b)) (h0 : 0 ≤ a) (hb : 0 < b)
    (hk : H P fn R n (.inv (anyS P C (semK P fn R k) L f (q :: dn)) :: k) .normal ((d, (.int kd (a % b))) :: env) w) : H P fn R n (.inv (anyS P C (semK P fn R k) L (f + 1) dn) :: k) .normal env w :=
  mix_y q mi mn mr ms mf hg hd (y_rem hx hy h0 hb) hk
theorem m_remT {t t' : TypeId} {x y : Operand} {kd : IntKind} {a b : Int} (q : Nat) (mi : nthO L q = some ⟨some d, .binOp .rem t x y t', ty, ps, af, g⟩) (mn : memN dn q = false) (mr : rdy dn ⟨some d, .binOp .rem t x y t', ty, ps, af, g⟩ = true) (ms : Region.noSelect L.toArray = true) (mf : apartAll L dn q = true) (hg : guardOf L env g = some true) (hd : Nat.blt d n = true) (hx : ev env x = some (.int kd a)) (hy : ev env y = some (.int kd b)) (hb : b ≠ 0)
    (hk : H P fn R n (.inv (anyS P C (semK P fn R k) L f (q :: dn)) :: k) .normal ((d, (.int kd (a.tmod b))) :: env) w) : H P fn R n (.inv (anyS P C (semK P fn R k) L (f + 1) dn) :: k) .normal env w :=
  mix_y q mi mn mr ms mf hg hd (y_remT hx hy hb) hk
theorem m_shl {t t' : TypeId} {x y : Operand} {k1 k2 : IntKind} {a b : Int} (q : Nat) (mi : nthO L q = some ⟨some d, .binOp .shl t x y t', ty, ps, af, g⟩) (mn : memN dn q = false) (mr : rdy dn ⟨some d, .binOp .shl t x y t', ty, ps, af, g⟩ = true) (ms : Region.noSelect L.toArray = true) (mf : apartAll L dn q = true) (hg : guardOf L env g = some true) (hd : Nat.blt d n = true) (hx : ev env x = some (.int k1 a)) (hy : ev env y = some (.int k2 b)) (h0 : 0 ≤ b) (h1 : b ≤ k1.bits)
    (hk : H P fn R n (.inv (anyS P C (semK P fn R k) L f (q :: dn)) :: k) .normal ((d, (.int k1 (k1.wrap (a * 2 ^ b.toNat)))) :: env) w) : H P fn R n (.inv (anyS P C (semK P fn R k) L (f + 1) dn) :: k) .normal env w :=
  mix_y q mi mn mr ms mf hg hd (y_shl hx hy h0 h1) hk
theorem m_shr {t t' : TypeId} {x y : Operand} {k1 k2 : IntKind} {a b : Int} (q : Nat) (mi : nthO L q = some ⟨some d, .binOp .shr t x y t', ty, ps, af, g⟩) (mn : memN dn q = false) (mr : rdy dn ⟨some d, .binOp .shr t x y t', ty, ps, af, g⟩ = true) (ms : Region.noSelect L.toArray = true) (mf : apartAll L dn q = true) (hg : guardOf L env g = some true) (hd : Nat.blt d n = true) (hx : ev env x = some (.int k1 a)) (hy : ev env y = some (.int k2 b)) (h0 : 0 ≤ b) (h1 : b ≤ k1.bits)
    (hk : H P fn R n (.inv (anyS P C (semK P fn R k) L f (q :: dn)) :: k) .normal ((d, (.int k1 (a.fdiv (2 ^ b.toNat)))) :: env) w) : H P fn R n (.inv (anyS P C (semK P fn R k) L (f + 1) dn) :: k) .normal env w :=
  mix_y q mi mn mr ms mf hg hd (y_shr hx hy h0 h1) hk
theorem m_conv {s t : TypeId} {x : Operand} {k1 k2 : IntKind} {a : Int} (q : Nat) (mi : nthO L q = some ⟨some d, .convert s t x, ty, ps, af, g⟩) (mn : memN dn q = false) (mr : rdy dn ⟨some d, .convert s t x, ty, ps, af, g⟩ = true) (ms : Region.noSelect L.toArray = true) (mf : apartAll L dn q = true) (hg : guardOf L env g = some true) (hd : Nat.blt d n = true) (hT : TabOk P tab) (hx : ev env x = some (.int k1 a)) (hs : tyAt tab s = .int k1) (ht : tyAt tab t = .int k2) (h : lowK k2 ≤ a ∧ a ≤ hiK k2)
    (hk : H P fn R n (.inv (anyS P C (semK P fn R k) L f (q :: dn)) :: k) .normal ((d, (.int k2 a)) :: env) w) : H P fn R n (.inv (anyS P C (semK P fn R k) L (f + 1) dn) :: k) .normal env w :=
  mix_y q mi mn mr ms mf hg hd (y_conv hT hx hs ht h) hk
theorem m_convB {s t : TypeId} {x : Operand} {k2 : IntKind} {b : UInt8} (q : Nat) (mi : nthO L q = some ⟨some d, .convert s t x, ty, ps, af, g⟩) (mn : memN dn q = false) (mr : rdy dn ⟨some d, .convert s t x, ty, ps, af, g⟩ = true) (ms : Region.noSelect L.toArray = true) (mf : apartAll L dn q = true) (hg : guardOf L env g = some true) (hd : Nat.blt d n = true) (hT : TabOk P tab) (hx : ev env x = some (bv b)) (hs : tyAt tab s = .int .u8) (ht : tyAt tab t = .int k2) (h : fits8 k2 = true)
    (hk : H P fn R n (.inv (anyS P C (semK P fn R k) L f (q :: dn)) :: k) .normal ((d, (.int k2 (b.toNat : Int))) :: env) w) : H P fn R n (.inv (anyS P C (semK P fn R k) L (f + 1) dn) :: k) .normal env w :=
  mix_y q mi mn mr ms mf hg hd (y_convB hT hx hs ht h) hk
theorem m_convW {s t : TypeId} {x : Operand} {k1 k2 : IntKind} {a : Int} (q : Nat) (mi : nthO L q = some ⟨some d, .convert s t x, ty, ps, af, g⟩) (mn : memN dn q = false) (mr : rdy dn ⟨some d, .convert s t x, ty, ps, af, g⟩ = true) (ms : Region.noSelect L.toArray = true) (mf : apartAll L dn q = true) (hg : guardOf L env g = some true) (hd : Nat.blt d n = true) (hT : TabOk P tab) (hx : ev env x = some (.int k1 a)) (hs : tyAt tab s = .int k1) (ht : tyAt tab t = .int k2)
    (hk : H P fn R n (.inv (anyS P C (semK P fn R k) L f (q :: dn)) :: k) .normal ((d, (.int k2 (k2.wrap a))) :: env) w) : H P fn R n (.inv (anyS P C (semK P fn R k) L (f + 1) dn) :: k) .normal env w :=
  mix_y q mi mn mr ms mf hg hd (y_convW hT hx hs ht) hk
theorem m_concat {t t' : TypeId} {x y : Operand} {s u : List UInt8} (q : Nat) (mi : nthO L q = some ⟨some d, .binOp .add t x y t', ty, ps, af, g⟩) (mn : memN dn q = false) (mr : rdy dn ⟨some d, .binOp .add t x y t', ty, ps, af, g⟩ = true) (ms : Region.noSelect L.toArray = true) (mf : apartAll L dn q = true) (hg : guardOf L env g = some true) (hd : Nat.blt d n = true) (hx : ev env x = some (.string (sOf s))) (hy : ev env y = some (.string (sOf u))) (h : s.length + u.length ≤ 9223372036854775807)
    (hk : H P fn R n (.inv (anyS P C (semK P fn R k) L f (q :: dn)) :: k) .normal ((d, (.string (sOf (s ++ u)))) :: env) w) : H P fn R n (.inv (anyS P C (semK P fn R k) L (f + 1) dn) :: k) .normal env w :=
  mix_y q mi mn mr ms mf hg hd (y_concat hx hy h) hk
theorem m_sliceStr {t : TypeId} {x : Operand} {lo hi : Option Operand} {s : List UInt8} {i j : Int} (q : Nat) (mi : nthO L q = some ⟨some d, .slice t x lo hi none, ty, ps, af, g⟩) (mn : memN dn q = false) (mr : rdy dn ⟨some d, .slice t x lo hi none, ty, ps, af, g⟩ = true) (ms : Region.noSelect L.toArray = true) (mf : apartAll L dn q = true) (hg : guardOf L env g = some true) (hd : Nat.blt d n = true) (hT : TabOk P tab) (hx : ev env x = some (.string (sOf s))) (hty : tyAt tab t = .str) (hj : bnd env (s.length : Nat) hi = some j) (hlo : bnd env (0 : Nat) lo = some i) (h0 : 0 ≤ i) (h1 : i ≤ j) (h2 : j ≤ s.length)
    (hk : H P fn R n (.inv (anyS P C (semK P fn R k) L f (q :: dn)) :: k) .normal ((d, (.string (sOf ((s.take j.toNat).drop i.toNat)))) :: env) w) : H P fn R n (.inv (anyS P C (semK P fn R k) L (f + 1) dn) :: k) .normal env w :=
  mix_y q mi mn mr ms mf hg hd (y_sliceStr hT hx hty hj hlo h0 h1 h2) hk
theorem m_slice {t e sz : Nat} {x : Operand} {lo hi : Option Operand} {A : Option Addr} {len cap : Nat} {i j : Int} (q : Nat) (mi : nthO L q = some ⟨some d, .slice t x lo hi none, ty, ps, af, g⟩) (mn : memN dn q = false) (mr : rdy dn ⟨some d, .slice t x lo hi none, ty, ps, af, g⟩ = true) (ms : Region.noSelect L.toArray = true) (mf : apartAll L dn q = true) (hg : guardOf L env g = some true) (hd : Nat.blt d n = true) (hT : TabOk P tab) (hx : ev env x = some (.slice A len cap)) (hty : tyAt tab t = .slice e sz) (hj : bnd env (len : Nat) hi = some j) (hlo : bnd env (0 : Nat) lo = some i) (h0 : 0 ≤ i) (h1 : i ≤ j) (h2 : j ≤ cap)
    (hk : H P fn R n (.inv (anyS P C (semK P fn R k) L f (q :: dn)) :: k) .normal ((d, (.slice (cutA sz i.toNat cap A) (j.toNat - i.toNat) (cap - i.toNat))) :: env) w) : H P fn R n (.inv (anyS P C (semK P fn R k) L (f + 1) dn) :: k) .normal env w :=
  mix_y q mi mn mr ms mf hg hd (y_slice hT hx hty hj hlo h0 h1 h2) hk
theorem m_indexAddr {t e sz : Nat} {x y : Operand} {b o len cap : Nat} {kd : IntKind} {i : Int} (q : Nat) (mi : nthO L q = some ⟨some d, .indexAddr t x y, ty, ps, af, g⟩) (mn : memN dn q = false) (mr : rdy dn ⟨some d, .indexAddr t x y, ty, ps, af, g⟩ = true) (ms : Region.noSelect L.toArray = true) (mf : apartAll L dn q = true) (hg : guardOf L env g = some true) (hd : Nat.blt d n = true) (hT : TabOk P tab) (hx : ev env x = some (.slice (some ⟨b, o, none⟩) len cap)) (hy : ev env y = some (.int kd i)) (hty : tyAt tab t = .slice e sz) (h0 : 0 ≤ i) (h1 : i < len)
    (hk : H P fn R n (.inv (anyS P C (semK P fn R k) L f (q :: dn)) :: k) .normal ((d, (.pointer (some ⟨b, o + i.toNat * sz, none⟩))) :: env) w) : H P fn R n (.inv (anyS P C (semK P fn R k) L (f + 1) dn) :: k) .normal env w :=
  mix_y q mi mn mr ms mf hg hd (y_indexAddr hT hx hy hty h0 h1) hk
theorem m_strOf {s t e : TypeId} {sz : Nat} {x : Operand} {A : Option Addr} {cap : Nat} {bs : List UInt8} (q : Nat) (mi : nthO L q = some ⟨some d, .convert s t x, ty, ps, af, g⟩) (mn : memN dn q = false) (mr : rdy dn ⟨some d, .convert s t x, ty, ps, af, g⟩ = true) (ms : Region.noSelect L.toArray = true) (mf : apartAll L dn q = true) (hg : guardOf L env g = some true) (hd : Nat.blt d n = true) (hT : TabOk P tab) (hx : ev env x = some (.slice A bs.length cap)) (hs : tyAt tab s = .slice e sz) (he : tyAt tab e = .int .u8) (ht : tyAt tab t = .str) (hc : ∀ w, C w → Cs w A (bs.map bv))
    (hk : H P fn R n (.inv (anyS P C (semK P fn R k) L f (q :: dn)) :: k) .normal ((d, (.string (sOf bs))) :: env) w) : H P fn R n (.inv (anyS P C (semK P fn R k) L (f + 1) dn) :: k) .normal env w :=
  mix_y q mi mn mr ms mf hg hd (y_strOf hT hx hs he ht hc) hk
theorem m_build {t : TypeId} {parts : List (Nat × Operand)} {v : Value} {vs : List (Nat × Value)} (q : Nat) (mi : nthO L q = some ⟨some d, .build t ⟨parts⟩, ty, ps, af, g⟩) (mn : memN dn q = false) (mr : rdy dn ⟨some d, .build t ⟨parts⟩, ty, ps, af, g⟩ = true) (ms : Region.noSelect L.toArray = true) (mf : apartAll L dn q = true) (hg : guardOf L env g = some true) (hd : Nat.blt d n = true) (hvs : evPairs env parts = some vs) (hrun : ∀ w, (Instr.build t ⟨vs⟩).run P w = .ok v w)
    (hk : H P fn R n (.inv (anyS P C (semK P fn R k) L f (q :: dn)) :: k) .normal ((d, v) :: env) w) : H P fn R n (.inv (anyS P C (semK P fn R k) L (f + 1) dn) :: k) .normal env w :=
  mix_y q mi mn mr ms mf hg hd (y_build hvs hrun) hk
end
end Go.Wk
