/-
  Bulk: what the second form's condition gives of an opened argument.
-/
import Derived.Test.YtfgllkflnkolhaaDoorRows
import Derived.Test.YtfgllkflnkolhaaDoorOpen
set_option linter.unusedVariables false
namespace Go.Wk.YtfgllkflnkolhaaDoor
open Go Go.Wk Go.Proofs.YtfgllkflnkolhaaDoor

theorem bulk_ge {H : Type} : ∀ (s : Sh) (x : s.D) (ds : List (DataW H)), Dt s x ds → s.vol x ≤ Rows.uptoBulkAll ds := by
  intro s
  induction s with
  | int k => rintro x ds rfl; simp [Sh.vol, Rows.uptoBulkAll, Rows.uptoBulk]
  | i8 => rintro x ds rfl; simp [Sh.vol, Rows.uptoBulkAll, Rows.uptoBulk]
  | u8 => rintro x ds rfl; simp [Sh.vol, Rows.uptoBulkAll, Rows.uptoBulk]
  | bool => rintro x ds rfl; simp [Sh.vol, Rows.uptoBulkAll, Rows.uptoBulk]
  | str => rintro x ds rfl; simp [Sh.vol, Rows.uptoBulkAll, Rows.uptoBulk]
  | un => rintro x ds rfl; simp [Sh.vol]
  | st r ih =>
    rintro x ds ⟨ps, rfl, h⟩
    have := ih x ps h
    simp only [Sh.vol, Rows.uptoBulkAll, Rows.uptoBulk]
    omega
  | pr a r iha ihr =>
    rintro ⟨x, y⟩ ds ⟨u, v, rfl, h1, h2⟩
    have h3 := iha x _ h1
    have h4 := ihr y _ h2
    simp only [Sh.vol, Rows.uptoBulkAll, List.cons_append, List.nil_append] at *
    omega
  | sl e ih =>
    rintro l ds (⟨rfl, rfl⟩ | ⟨es, sp, rfl, hl, h⟩)
    · simp [Sh.vol, Rows.uptoBulkAll, Rows.uptoBulk]
    have key : ∀ (l : List e.D) (es : List (DataW H)), es.length = l.length → (∀ (i : Nat) (x : e.D) (d : DataW H), l[i]? = some x → es[i]? = some d → Dt e x [d]) → (l.map e.vol).sum ≤ Rows.uptoBulkAll es := by
      intro l
      induction l with
      | nil => intro es _ _; simp
      | cons x l ihl =>
        intro es hl h
        cases es with
        | nil => simp at hl
        | cons d es =>
          have h1 := ih x _ (h 0 x d rfl rfl)
          have h2 := ihl es (by simpa using hl) (fun i y d' h1 h2 => h (i + 1) y d' (by simpa using h1) (by simpa using h2))
          simp only [Rows.uptoBulkAll, List.map_cons, List.sum_cons] at *
          omega
    have := key l es hl h
    simp only [Sh.vol, Rows.uptoBulkAll, Rows.uptoBulk]
    omega
end Go.Wk.YtfgllkflnkolhaaDoor
