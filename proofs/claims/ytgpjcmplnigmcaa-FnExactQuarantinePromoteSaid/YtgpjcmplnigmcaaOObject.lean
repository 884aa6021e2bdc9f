/-
  How an argument of type []laws.Object is opened, as data. No condition.
-/
import Derived.Test.YtgpjcmplnigmcaaM5
import Derived.Test.YtgpjcmplnigmcaaNestO
namespace Go.Proofs.Ytgpjcmplnigmcaa
set_option linter.unusedVariables false
set_option linter.unusedSimpArgs false
open Go.ChangeShapes Go.WideShapes Go.Deep Go.RowKit

set_option maxRecDepth 100000 in
theorem openc_Object {H : Type} {enc : TypeId × Value → H} {w : World} {fuel : Nat} {cs : List Value} {x : DataW H × List MemPlace} (h : DataW.trod enc Try.prog w 0 (fun _ => true) true fuel 22 cs = some x) :
    ∃ A n c xs, cs = [.slice A n c] ∧ D.rd w 0 w.heap.size (dObjects xs) (.slice A n c) := by
  rcases open_slice_fields Try.underlying22 Try.underlying66 (by kernel_rfl) (by kernel_rfl) h with ⟨hcs, _⟩ | ⟨a, n, c, mm, DD, Pl, hcs, _, hl, hm, hmm, _, hi⟩
  · exact ⟨none, 0, 0, [], hcs, rd_nil_arr _ _ _ _ _ _ (by omega)⟩
  · have key : ∀ i, i < n → ∃ x : ObjD, ∀ j d, (fObject x)[j]? = some d → ∃ u, w.cell? (a.add (i * 3 + j)) = some u ∧ D.rd w 0 w.heap.size d u := by
      intro i hin
      obtain ⟨ys, q, _, _, _, hfl⟩ := hi i (by rw [hmm]; split <;> omega)
      obtain ⟨v0, y0, hc0, _, ht0⟩ := hfl 0 _ rfl
      obtain ⟨x0, e0, _, _⟩ := DataW.trod_int Try.underlying3 ht0
      simp at e0
      subst e0
      obtain ⟨v1, y1, hc1, _, ht1⟩ := hfl 1 _ rfl
      obtain ⟨A1, n1, c1, x1, e1, hr1⟩ := openc_ints ht1
      simp at e1
      subst e1
      obtain ⟨v2, y2, hc2, _, ht2⟩ := hfl 2 _ rfl
      obtain ⟨x2, e2, _, hx2⟩ := DataW.trod_string Try.underlying9 ht2
      simp at e2
      subst e2
      refine ⟨⟨x0, x1, x2⟩, fun j d hd => ?_⟩
      match j with
      | 0 =>
        simp [fObject] at hd
        subst hd
        refine ⟨_, hc0, ?_⟩
        unfold D.rd; rfl
      | 1 =>
        simp [fObject] at hd
        subst hd
        refine ⟨_, hc1, ?_⟩
        exact hr1
      | 2 =>
        simp [fObject] at hd
        subst hd
        refine ⟨_, hc2, ?_⟩
        unfold D.rd; exact ⟨rfl, by unfold maxLen at hx2; exact hx2⟩
      | j + 3 => simp [fObject] at hd
    obtain ⟨xs, hxl, hx⟩ := list_of n key
    refine ⟨some a, n, c, xs, hcs, ?_⟩
    unfold dObjects
    have h1 := rd_of_cells fObject_len (by omega) hxl hl (by unfold maxLen at hm; exact hm) hx
    rw [← hxl] at h1 ⊢
    exact h1

set_option maxRecDepth 100000 in
theorem open_Object {H : Type} {enc : TypeId × Value → H} {w : World} {v : Value} {d : DataW H} {pl : List MemPlace} (hv : Value.okWide Try.prog w .any 0 22 v)
    (h : DataW.Trod enc Try.prog w 0 (fun _ => true) true 22 v d pl) : ∃ A n c xs, v = .slice A n c ∧ D.rd w 0 w.heap.size (dObjects xs) (.slice A n c) := by
  obtain ⟨A, n, c, rfl⟩ := okWide_slice Try.underlying22 hv
  obtain ⟨fuel, hf⟩ := h
  obtain ⟨A2, n2, c2, xs, e, hr⟩ := openc_Object hf
  simp [Value.cells] at e
  obtain ⟨rfl, rfl, rfl⟩ := e
  exact ⟨_, _, _, xs, rfl, hr⟩

end Go.Proofs.Ytgpjcmplnigmcaa
