/-
  How an argument of type []laws.Part is opened, as data whose numbers are int64s. No condition.
-/
import Derived.Test.YtgbkjfhmbchiiaaTPart
import Derived.Test.YtgbkjfhmbchiiaaWUpdate
namespace Go.Proofs.Ytgbkjfhmbchiiaa
set_option linter.unusedVariables false
set_option linter.unusedSimpArgs false
open Go.ChangeShapes Go.WideShapes Go.Deep Go.RowKit

set_option maxRecDepth 100000 in
theorem openw_Part {H : Type} {enc : TypeId × Value → H} {w : World} {fuel : Nat} {cs : List Value} {x : DataW H × List MemPlace} (h : DataW.trod enc Try.prog w 0 (fun _ => true) true fuel 73 cs = some x) :
    ∃ A n c xs, cs = [.slice A n c] ∧ D.rd w 0 w.heap.size (dParts xs) (.slice A n c) ∧ D.wf (dParts xs) := by
  rcases open_slice_fields Try.underlying73 Try.underlying128 (by kernel_rfl) (by kernel_rfl) h with ⟨hcs, _⟩ | ⟨a, n, c, mm, DD, Pl, hcs, _, hl, hm, hmm, _, hi⟩
  · exact ⟨none, 0, 0, [], hcs, rd_nil_arr _ _ _ _ _ _ (by omega), by unfold dParts; rw [wf_arr]; exact wfL_nil⟩
  · have key : ∀ i, i < n → ∃ x : PartD, (∀ j d, (fPart x)[j]? = some d → ∃ u, w.cell? (a.add (i * 2 + j)) = some u ∧ D.rd w 0 w.heap.size d u) ∧ D.wfL (fPart x) := by
      intro i hin
      obtain ⟨ys, q, _, _, _, hfl⟩ := hi i (by rw [hmm]; split <;> omega)
      obtain ⟨v0, y0, hc0, _, ht0⟩ := hfl 0 _ rfl
      obtain ⟨x0, e0, _, hw0⟩ := DataW.trod_int Try.underlying3 ht0
      simp at e0
      subst e0
      obtain ⟨v1, y1, hc1, _, ht1⟩ := hfl 1 _ rfl
      obtain ⟨A1, n1, c1, x1, e1, hr1, hw1⟩ := openw_Update ht1
      simp at e1
      subst e1
      refine ⟨⟨x0, x1⟩, fun j d hd => ?_, ?_⟩
      · match j with
        | 0 =>
          simp [fPart] at hd
          subst hd
          refine ⟨_, hc0, ?_⟩
          unfold D.rd; rfl
        | 1 =>
          simp [fPart] at hd
          subst hd
          refine ⟨_, hc1, ?_⟩
          exact hr1
        | j + 2 => simp [fPart] at hd
      · unfold fPart; simp only [wfL_cons, and_true]; exact ⟨wf_int.2 (by first | exact hw0 | simpa using hw0), hw1, wfL_nil⟩
    obtain ⟨xs, hxl, hx⟩ := list_of n key
    refine ⟨some a, n, c, xs, hcs, ?_, by unfold dParts; rw [wf_arr]; exact wf_mem fun i hi => (hx i hi).2⟩
    unfold dParts
    have h1 := rd_of_cells fPart_len (by omega) hxl hl (by unfold maxLen at hm; exact hm) (fun i hi => (hx i hi).1)
    rw [← hxl] at h1 ⊢
    exact h1

set_option maxRecDepth 100000 in
theorem openv_Part {H : Type} {enc : TypeId × Value → H} {w : World} {v : Value} {d : DataW H} {pl : List MemPlace} (hv : Value.okWide Try.prog w .any 0 73 v)
    (h : DataW.Trod enc Try.prog w 0 (fun _ => true) true 73 v d pl) : ∃ A n c xs, v = .slice A n c ∧ D.rd w 0 w.heap.size (dParts xs) (.slice A n c) ∧ D.wf (dParts xs) := by
  obtain ⟨A, n, c, rfl⟩ := okWide_slice Try.underlying73 hv
  obtain ⟨fuel, hf⟩ := h
  obtain ⟨A2, n2, c2, xs, e, hr, hw⟩ := openw_Part hf
  simp [Value.cells] at e
  obtain ⟨rfl, rfl, rfl⟩ := e
  exact ⟨_, _, _, xs, rfl, hr, hw⟩

end Go.Proofs.Ytgbkjfhmbchiiaa
