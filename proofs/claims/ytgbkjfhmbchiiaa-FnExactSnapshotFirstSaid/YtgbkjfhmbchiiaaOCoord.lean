/-
  How an argument of type laws.Coordinator is opened, as data whose numbers are int64s. No condition.
-/
import Derived.Test.YtgbkjfhmbchiiaaTCoord
import Derived.Test.YtgbkjfhmbchiiaaWTxn
namespace Go.Proofs.Ytgbkjfhmbchiiaa
set_option linter.unusedVariables false
set_option linter.unusedSimpArgs false
open Go.ChangeShapes Go.WideShapes Go.Deep Go.RowKit

set_option maxRecDepth 100000 in
theorem open_Coord {H : Type} {enc : TypeId × Value → H} {w : World} {v : Value} {d : DataW H} {pl : List MemPlace} (hv : Value.okWide Try.prog w .any 0 35 v)
    (h : DataW.Trod enc Try.prog w 0 (fun _ => true) true 35 v d pl) : ∃ A0 n0 c0 ts A1 n1 c1 os, v = .agg #[.slice A0 n0 c0, .slice A1 n1 c1] ∧
      (D.rd w 0 w.heap.size (dTxns ts) (.slice A0 n0 c0) ∧ D.rd w 0 w.heap.size (intsD os) (.slice A1 n1 c1) ∧ D.wf (dTxns ts) ∧ D.wf (intsD os)) := by
  obtain ⟨v0, v1, y0, y1, n, rfl, _, _, h0, h1⟩ := Go.Joins.open_agg2 Try.underlying35 (by kernel_rfl) (by kernel_rfl) hv h
  obtain ⟨A0, n0, c0, ts, e0, r0, w0⟩ := openw_Txn h0
  obtain ⟨A1, n1, c1, os, e1, r1, w1⟩ := openw_ints h1
  simp at e0 e1
  subst e0 e1
  exact ⟨A0, n0, c0, ts, A1, n1, c1, os, rfl, r0, r1, w0, w1⟩
theorem wf_votes {ts : List TxnD} (h : D.wf (dTxns ts)) : ∀ t ∈ ts, ∀ v ∈ t.votes, (Lit.int .i64 v).wf = true := by
  intro t ht
  unfold dTxns at h
  rw [wf_arr, wfL_flat] at h
  have := h t ht
  unfold fTxn at this
  rw [wfL_cons, wfL_cons] at this
  exact wf_ints.1 this.2.1

end Go.Proofs.Ytgbkjfhmbchiiaa
