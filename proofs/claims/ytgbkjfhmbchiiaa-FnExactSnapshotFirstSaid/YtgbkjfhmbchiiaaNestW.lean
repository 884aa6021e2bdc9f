/-
  Data whose numbers are all int64s; how arguments with depth are opened so. Plain words; no condition.
-/
import Derived.Test.YtgbkjfhmbchiiaaNestO
import Derived.Lib.SmallJoins
namespace Go.Proofs.Ytgbkjfhmbchiiaa
set_option linter.unusedVariables false
set_option linter.unusedSimpArgs false
open Go.ChangeShapes Go.WideShapes Go.Deep Go.RowKit

mutual
/-- all numbers are int64s -/
def D.wf : D → Prop
  | .int n => (Lit.int .i64 n).wf = true
  | .bool _ => True
  | .str _ => True
  | .arr _ _ es => D.wfL es
def D.wfL : List D → Prop
  | [] => True
  | d :: ds => D.wf d ∧ D.wfL ds
end
theorem wf_int {n : Int} : D.wf (.int n) ↔ (Lit.int .i64 n).wf = true := by unfold D.wf; rfl
theorem wf_str {s : ByteArray} : D.wf (.str s) := by unfold D.wf; trivial
theorem wf_arr {m n : Nat} {es : List D} : D.wf (.arr m n es) ↔ D.wfL es := by rw [D.wf]
theorem wfL_nil : D.wfL [] := by unfold D.wfL; trivial
theorem wfL_cons {d : D} {ds : List D} : D.wfL (d :: ds) ↔ D.wf d ∧ D.wfL ds := by rw [D.wfL]
theorem wfL_app {a b : List D} : D.wfL (a ++ b) ↔ D.wfL a ∧ D.wfL b := by
  induction a with
  | nil => simp [wfL_nil]
  | cons d a ih => rw [List.cons_append, wfL_cons, wfL_cons, ih, and_assoc]
theorem wfL_flat {α : Type} {f : α → List D} {xs : List α} : D.wfL (xs.flatMap f) ↔ ∀ x ∈ xs, D.wfL (f x) := by
  induction xs with
  | nil => simp [wfL_nil]
  | cons x xs ih => rw [List.flatMap_cons, wfL_app, ih]; simp
theorem wf_ints {xs : List Int} : D.wf (intsD xs) ↔ ∀ x ∈ xs, (Lit.int .i64 x).wf = true := by
  unfold intsD
  rw [wf_arr]
  induction xs with
  | nil => simp [wfL_nil]
  | cons x xs ih => rw [List.map_cons, wfL_cons, ih, wf_int]; simp
theorem wf_mem {α : Type} {f : α → List D} {xs : List α} (h : ∀ i (hi : i < xs.length), D.wfL (f xs[i])) : D.wfL (xs.flatMap f) := wfL_flat.2 fun x hx => by
  obtain ⟨i, hi, rfl⟩ := List.getElem_of_mem hx
  exact h i hi

theorem openw_ints {H : Type} {enc : TypeId × Value → H} {w : World} {fuel : Nat} {cs : List Value} {x : DataW H × List MemPlace} (h : DataW.trod enc Try.prog w 0 (fun _ => true) true fuel 24 cs = some x) :
    ∃ A n c xs, cs = [.slice A n c] ∧ D.rd w 0 w.heap.size (intsD xs) (.slice A n c) ∧ D.wf (intsD xs) := by
  obtain ⟨A, n, c, xs, h1, h2⟩ := openc_ints h
  rcases open_ints Try.underlying24 Try.underlying3 (by kernel_rfl) h with ⟨hcs, _⟩ | ⟨a, l, c', zs, hcs, _, hl, hm, hz, _, hcell, hwz⟩
  · refine ⟨A, n, c, xs, h1, h2, wf_ints.2 ?_⟩
    rw [h1] at hcs
    injection hcs with e _
    injection e with _ e2 _
    have := h2.ints.1
    rw [e2] at this
    rw [List.eq_nil_of_length_eq_zero this]
    intro x hx; cases hx
  · refine ⟨A, n, c, xs, h1, h2, wf_ints.2 fun x hx => ?_⟩
    rw [h1] at hcs
    injection hcs with e _
    injection e with e1 e2 e3
    subst e1 e2 e3
    have hz' : zs.length = c := by rw [hz]; simp
    obtain ⟨i, hi, rfl⟩ := List.getElem_of_mem hx
    have hin : i < n := by have := h2.ints.1; omega
    obtain ⟨b, o, hl2, e4, _, _, hc⟩ := h2.ints.int hin
    injection e4 with e4
    subst e4
    have hc2 := hcell i (by omega)
    rw [addr_lit hc2] at hc2
    rw [hc2, List.getD_eq_getElem?_getD, List.getElem?_eq_getElem (by omega)] at hc
    injection hc with hc
    injection hc with _ hc
    rw [← hc]
    exact hwz _ (List.getElem_mem (by omega))

end Go.Proofs.Ytgbkjfhmbchiiaa
