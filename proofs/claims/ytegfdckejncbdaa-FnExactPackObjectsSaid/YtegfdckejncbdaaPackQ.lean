/-
  How many numbers the packs and objects of a law hold. No condition.
-/
import Derived.Test.YtegfdckejncbdaaNestQ
import Derived.Test.YtegfdckejncbdaaMPackEntry
import Derived.Test.YtegfdckejncbdaaMObject
namespace Go.Proofs.Ytegfdckejncbdaa
set_option linter.unusedVariables false
set_option linter.unusedSimpArgs false
open Go.RowKit

theorem cnt_dOps (xs : List OpD) : D.cnt (dOps xs) ≤ 3 * D.sz (dOps xs) :=
  cnt_arr_le fOp (fun x => by unfold fOp; simp only [cntL_cons, cntL_nil, cnt_int, cnt_str]; omega) 3 xs
theorem cnt_dPackEntrys (xs : List PED) : D.cnt (dPackEntrys xs) ≤ 3 * D.sz (dPackEntrys xs) :=
  cnt_arr_le fPackEntry (fun x => by
    rw [szL_fPackEntry]
    unfold fPackEntry
    simp only [cntL_cons, cntL_nil, cnt_int, cnt_ints]
    have h1 := cnt_dOps x.ops
    have h2 := sz_ints x.links
    omega) 4 xs
theorem cnt_dObjects (xs : List ObjD) : D.cnt (dObjects xs) ≤ 3 * D.sz (dObjects xs) :=
  cnt_arr_le fObject (fun x => by
    rw [szL_fObject]
    unfold fObject
    simp only [cntL_cons, cntL_nil, cnt_int, cnt_str, cnt_ints]
    have h2 := sz_ints x.links
    omega) 3 xs
theorem sz_objs {xs : List ObjD} (h : ∀ x ∈ xs, objB x = true) : D.sz (dObjects xs) ≤ 13 * xs.length := by
  unfold dObjects
  rw [sz_arr]
  have : D.szL (xs.flatMap fObject) ≤ 12 * xs.length := by
    induction xs with
    | nil => rw [List.flatMap_nil, szL_nil]; omega
    | cons x xs ih =>
      rw [List.flatMap_cons, szL_app, szL_fObject, List.length_cons, sz_ints]
      have h1 := objB_and (h x List.mem_cons_self)
      have h2 := ih (fun y hy => h y (List.mem_cons_of_mem _ hy))
      omega
  omega
theorem packL_short (ps : List PED) : (packL ps).length ≤ 16 := by
  unfold packL
  split
  · rename_i h
    rw [packTo_len]
    exact (packB_and h).1
  · decide
theorem cnt_pack (ps : List PED) : D.cnt (dObjects (packL ps)) ≤ 1000 := by
  have h1 := cnt_dObjects (packL ps)
  have h2 := sz_objs (xs := packL ps) packL_obj
  have h3 := packL_short ps
  omega

end Go.Proofs.Ytegfdckejncbdaa
