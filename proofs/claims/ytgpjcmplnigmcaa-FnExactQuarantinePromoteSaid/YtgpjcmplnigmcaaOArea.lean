/-
  How an argument of type []laws.Area is opened, as data. No condition.
-/
import Derived.Test.YtgpjcmplnigmcaaM9
import Derived.Test.YtgpjcmplnigmcaaOObject
namespace Go.Proofs.Ytgpjcmplnigmcaa
set_option linter.unusedVariables false
set_option linter.unusedSimpArgs false
open Go.ChangeShapes Go.WideShapes Go.Deep Go.RowKit

set_option maxRecDepth 100000 in
theorem openc_Area {H : Type} {enc : TypeId × Value → H} {w : World} {fuel : Nat} {cs : List Value} {x : DataW H × List MemPlace} (h : DataW.trod enc Try.prog w 0 (fun _ => true) true fuel 23 cs = some x) :
    ∃ A n c xs, cs = [.slice A n c] ∧ D.rd w 0 w.heap.size (dAreas xs) (.slice A n c) := by
  rcases open_slice_fields Try.underlying23 Try.underlying104 (by kernel_rfl) (by kernel_rfl) h with ⟨hcs, _⟩ | ⟨a, n, c, mm, DD, Pl, hcs, _, hl, hm, hmm, _, hi⟩
  · exact ⟨none, 0, 0, [], hcs, rd_nil_arr _ _ _ _ _ _ (by omega)⟩
  · have key : ∀ i, i < n → ∃ x : AreaD, ∀ j d, (fArea x)[j]? = some d → ∃ u, w.cell? (a.add (i * 2 + j)) = some u ∧ D.rd w 0 w.heap.size d u := by
      intro i hin
      obtain ⟨ys, q, _, _, _, hfl⟩ := hi i (by rw [hmm]; split <;> omega)
      obtain ⟨v0, y0, hc0, _, ht0⟩ := hfl 0 _ rfl
      obtain ⟨x0, e0, _, _⟩ := DataW.trod_int Try.underlying3 ht0
      simp at e0
      subst e0
      obtain ⟨v1, y1, hc1, _, ht1⟩ := hfl 1 _ rfl
      obtain ⟨A1, n1, c1, x1, e1, hr1⟩ := openc_Object ht1
      simp at e1
      subst e1
      refine ⟨⟨x0, x1⟩, fun j d hd => ?_⟩
      match j with
      | 0 =>
        simp [fArea] at hd
        subst hd
        refine ⟨_, hc0, ?_⟩
        unfold D.rd; rfl
      | 1 =>
        simp [fArea] at hd
        subst hd
        refine ⟨_, hc1, ?_⟩
        exact hr1
      | j + 2 => simp [fArea] at hd
    obtain ⟨xs, hxl, hx⟩ := list_of n key
    refine ⟨some a, n, c, xs, hcs, ?_⟩
    unfold dAreas
    have h1 := rd_of_cells fArea_len (by omega) hxl hl (by unfold maxLen at hm; exact hm) hx
    rw [← hxl] at h1 ⊢
    exact h1

set_option maxRecDepth 100000 in
theorem open_Area {H : Type} {enc : TypeId × Value → H} {w : World} {v : Value} {d : DataW H} {pl : List MemPlace} (hv : Value.okWide Try.prog w .any 0 23 v)
    (h : DataW.Trod enc Try.prog w 0 (fun _ => true) true 23 v d pl) : ∃ A n c xs, v = .slice A n c ∧ D.rd w 0 w.heap.size (dAreas xs) (.slice A n c) := by
  obtain ⟨A, n, c, rfl⟩ := okWide_slice Try.underlying23 hv
  obtain ⟨fuel, hf⟩ := h
  obtain ⟨A2, n2, c2, xs, e, hr⟩ := openc_Area hf
  simp [Value.cells] at e
  obtain ⟨rfl, rfl, rfl⟩ := e
  exact ⟨_, _, _, xs, rfl, hr⟩

end Go.Proofs.Ytgpjcmplnigmcaa
