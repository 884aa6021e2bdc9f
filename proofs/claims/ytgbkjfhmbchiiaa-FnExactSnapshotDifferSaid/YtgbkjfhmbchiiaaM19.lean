/-
  How an argument of type []laws.Txn is opened, as data whose numbers are int64s. No condition.
  How an argument of type laws.Coordinator is opened, as data whose numbers are int64s. No condition.
-/
import Derived.Test.YtgbkjfhmbchiiaaM4
import Derived.Test.YtgbkjfhmbchiiaaM18
import Derived.Test.YtgbkjfhmbchiiaaM5
namespace Go.Proofs.Ytgbkjfhmbchiiaa
set_option linter.unusedVariables false
set_option linter.unusedSimpArgs false
open Go.ChangeShapes Go.WideShapes Go.Deep Go.RowKit

set_option maxRecDepth 100000 in
theorem openw_Txn {H : Type} {enc : TypeId × Value → H} {w : World} {fuel : Nat} {cs : List Value} {x : DataW H × List MemPlace} (h : DataW.trod enc Try.prog w 0 (fun _ => true) true fuel 33 cs = some x) :
    ∃ A n c xs, cs = [.slice A n c] ∧ D.rd w 0 w.heap.size (dTxns xs) (.slice A n c) ∧ D.wf (dTxns xs) := by
  rcases open_slice_fields Try.underlying33 Try.underlying75 (by kernel_rfl) (by kernel_rfl) h with ⟨hcs, _⟩ | ⟨a, n, c, mm, DD, Pl, hcs, _, hl, hm, hmm, _, hi⟩
  · exact ⟨none, 0, 0, [], hcs, rd_nil_arr _ _ _ _ _ _ (by omega), by unfold dTxns; rw [wf_arr]; exact wfL_nil⟩
  · have key : ∀ i, i < n → ∃ x : TxnD, (∀ j d, (fTxn x)[j]? = some d → ∃ u, w.cell? (a.add (i * 3 + j)) = some u ∧ D.rd w 0 w.heap.size d u) ∧ D.wfL (fTxn x) := by
      intro i hin
      obtain ⟨ys, q, _, _, _, hfl⟩ := hi i (by rw [hmm]; split <;> omega)
      obtain ⟨v0, y0, hc0, _, ht0⟩ := hfl 0 _ rfl
      obtain ⟨A0, n0, c0, x0, e0, hr0, hw0⟩ := openw_Part ht0
      simp at e0
      subst e0
      obtain ⟨v1, y1, hc1, _, ht1⟩ := hfl 1 _ rfl
      obtain ⟨A1, n1, c1, x1, e1, hr1, hw1⟩ := openw_ints ht1
      simp at e1
      subst e1
      obtain ⟨v2, y2, hc2, _, ht2⟩ := hfl 2 _ rfl
      obtain ⟨x2, e2, _, hw2⟩ := DataW.trod_int Try.underlying3 ht2
      simp at e2
      subst e2
      refine ⟨⟨x0, x1, x2⟩, fun j d hd => ?_, ?_⟩
      · match j with
        | 0 =>
          simp [fTxn] at hd
          subst hd
          refine ⟨_, hc0, ?_⟩
          exact hr0
        | 1 =>
          simp [fTxn] at hd
          subst hd
          refine ⟨_, hc1, ?_⟩
          exact hr1
        | 2 =>
          simp [fTxn] at hd
          subst hd
          refine ⟨_, hc2, ?_⟩
          unfold D.rd; rfl
        | j + 3 => simp [fTxn] at hd
      · unfold fTxn; simp only [wfL_cons, and_true]; exact ⟨hw0, hw1, wf_int.2 (by first | exact hw2 | simpa using hw2), wfL_nil⟩
    obtain ⟨xs, hxl, hx⟩ := list_of n key
    refine ⟨some a, n, c, xs, hcs, ?_, by unfold dTxns; rw [wf_arr]; exact wf_mem fun i hi => (hx i hi).2⟩
    unfold dTxns
    have h1 := rd_of_cells fTxn_len (by omega) hxl hl (by unfold maxLen at hm; exact hm) (fun i hi => (hx i hi).1)
    rw [← hxl] at h1 ⊢
    exact h1

set_option maxRecDepth 100000 in
theorem openv_Txn {H : Type} {enc : TypeId × Value → H} {w : World} {v : Value} {d : DataW H} {pl : List MemPlace} (hv : Value.okWide Try.prog w .any 0 33 v)
    (h : DataW.Trod enc Try.prog w 0 (fun _ => true) true 33 v d pl) : ∃ A n c xs, v = .slice A n c ∧ D.rd w 0 w.heap.size (dTxns xs) (.slice A n c) ∧ D.wf (dTxns xs) := by
  obtain ⟨A, n, c, rfl⟩ := okWide_slice Try.underlying33 hv
  obtain ⟨fuel, hf⟩ := h
  obtain ⟨A2, n2, c2, xs, e, hr, hw⟩ := openw_Txn hf
  simp [Value.cells] at e
  obtain ⟨rfl, rfl, rfl⟩ := e
  exact ⟨_, _, _, xs, rfl, hr, hw⟩

end Go.Proofs.Ytgbkjfhmbchiiaa

namespace Go.Proofs.Ytgbkjfhmbchiiaa
set_option linter.unusedVariables false
set_option linter.unusedSimpArgs false
open Go.ChangeShapes Go.WideShapes Go.Deep Go.RowKit

set_option maxRecDepth 100000 in
theorem open_Coord {H : Type} {enc : TypeId × Value → H} {w : World} {v : Value} {d : DataW H} {pl : List MemPlace} (hv : Value.okWide Try.prog w .any 0 35 v)
    (h : DataW.Trod enc Try.prog w 0 (fun _ => true) true 35 v d pl) : ∃ A0 n0 c0 ts A1 n1 c1 os, v = .agg #[.slice A0 n0 c0, .slice A1 n1 c1] ∧
      (D.rd w 0 w.heap.size (dTxns ts) (.slice A0 n0 c0) ∧ D.rd w 0 w.heap.size (intsD os) (.slice A1 n1 c1) ∧ D.wf (dTxns ts) ∧ D.wf (intsD os)) := by
  obtain ⟨v0, v1, y0, y1, n, rfl, _, _, h0, h1⟩ := Go.Joins.open_agg2 Try.underlying35 (by kernel_rfl) (by kernel_rfl) hv h
  obtain ⟨A0, n0, c0, ts, e0, r0, w0⟩ := openw_Txn h0
  obtain ⟨A1, n1, c1, os, e1, r1, w1⟩ := openw_ints h1
  simp at e0 e1
  subst e0 e1
  exact ⟨A0, n0, c0, ts, A1, n1, c1, os, rfl, r0, r1, w0, w1⟩
theorem wf_votes {ts : List TxnD} (h : D.wf (dTxns ts)) : ∀ t ∈ ts, ∀ v ∈ t.votes, (Lit.int .i64 v).wf = true := by
  intro t ht
  unfold dTxns at h
  rw [wf_arr, wfL_flat] at h
  have := h t ht
  unfold fTxn at this
  rw [wfL_cons, wfL_cons] at this
  exact wf_ints.1 this.2.1

end Go.Proofs.Ytgbkjfhmbchiiaa
