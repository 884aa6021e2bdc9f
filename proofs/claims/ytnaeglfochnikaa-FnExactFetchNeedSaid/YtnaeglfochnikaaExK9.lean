/-
  How many numbers the objects of a law hold; how an argument of type []int is opened, as data. No condition.
-/
import Derived.Test.YtnaeglfochnikaaM16
import Derived.Test.YtnaeglfochnikaaM17
namespace Go.Proofs.Ytnaeglfochnikaa
set_option linter.unusedVariables false
set_option linter.unusedSimpArgs false
open Go.ChangeShapes Go.WideShapes Go.Deep Go.RowKit

theorem cnt_dObjects (xs : List ObjD) : D.cnt (dObjects xs) ≤ 3 * D.sz (dObjects xs) :=
  cnt_arr_le fObject (fun x => by
    rw [szL_fObject]
    unfold fObject
    simp only [cntL_cons, cntL_nil, cnt_int, cnt_str, cnt_ints]
    have h2 := sz_ints x.links
    omega) 3 xs
set_option maxRecDepth 100000 in
theorem open_IntsD {H : Type} {enc : TypeId × Value → H} {w : World} {v : Value} {d : DataW H} {pl : List MemPlace} (hv : Value.okWide Try.prog w .any 0 23 v)
    (h : DataW.Trod enc Try.prog w 0 (fun _ => true) true 23 v d pl) : ∃ A n c xs, v = .slice A n c ∧ D.rd w 0 w.heap.size (intsD xs) (.slice A n c) := by
  obtain ⟨A, n, c, rfl⟩ := okWide_slice Try.underlying23 hv
  obtain ⟨fuel, hf⟩ := h
  obtain ⟨A2, n2, c2, xs, e, hr⟩ := openc_ints hf
  simp [Value.cells] at e
  obtain ⟨rfl, rfl, rfl⟩ := e
  exact ⟨_, _, _, xs, rfl, hr⟩

end Go.Proofs.Ytnaeglfochnikaa
