/-
  How an argument of type laws.Quarantine is opened, as data. No condition.
-/
import Derived.Test.YtgpjcmplnigmcaaTQua
import Derived.Test.YtgpjcmplnigmcaaOArea
import Derived.Lib.SmallJoins
namespace Go.Proofs.Ytgpjcmplnigmcaa
set_option linter.unusedVariables false
set_option linter.unusedSimpArgs false
open Go.ChangeShapes Go.WideShapes Go.Deep Go.RowKit

set_option maxRecDepth 100000 in
theorem open_Qua {H : Type} {enc : TypeId × Value → H} {w : World} {v : Value} {d : DataW H} {pl : List MemPlace} (hv : Value.okWide Try.prog w .any 0 25 v)
    (h : DataW.Trod enc Try.prog w 0 (fun _ => true) true 25 v d pl) : ∃ A0 n0 c0 os A1 n1 c1 zs, v = .agg #[.slice A0 n0 c0, .slice A1 n1 c1] ∧
      (D.rd w 0 w.heap.size (dObjects os) (.slice A0 n0 c0) ∧ D.rd w 0 w.heap.size (dAreas zs) (.slice A1 n1 c1)) := by
  obtain ⟨v0, v1, y0, y1, n, rfl, _, _, h0, h1⟩ := Go.Joins.open_agg2 Try.underlying25 (by kernel_rfl) (by kernel_rfl) hv h
  obtain ⟨A0, n0, c0, os, e0, r0⟩ := openc_Object h0
  obtain ⟨A1, n1, c1, zs, e1, r1⟩ := openc_Area h1
  simp at e0 e1
  subst e0 e1
  exact ⟨A0, n0, c0, os, A1, n1, c1, zs, rfl, r0, r1⟩

end Go.Proofs.Ytgpjcmplnigmcaa
