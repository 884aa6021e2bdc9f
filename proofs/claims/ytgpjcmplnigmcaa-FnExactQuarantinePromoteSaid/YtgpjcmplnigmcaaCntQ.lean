/-
  How many numbers a valid quarantine holds; what is put or promoted is valid. Plain words; no condition.
-/
import Derived.Test.YtgpjcmplnigmcaaMQua
import Derived.Test.YtgpjcmplnigmcaaM13
namespace Go.Proofs.Ytgpjcmplnigmcaa
set_option linter.unusedVariables false
set_option linter.unusedSimpArgs false
open Go.RowKit

theorem cntL_objs (os : List ObjD) (h : ∀ o ∈ os, objB o = true) : D.cntL (os.flatMap fObject) ≤ 6 * os.length := by
  induction os with
  | nil => rw [List.flatMap_nil, cntL_nil]; exact Nat.zero_le _
  | cons o os ih =>
    have h1 := ih fun x hx => h x (List.mem_cons_of_mem _ hx)
    have h2 := (objB_and (h o List.mem_cons_self)).2.1
    rw [List.flatMap_cons, cntL_app, List.length_cons]
    have h3 : D.cntL (fObject o) = 1 + o.links.length + 1 := by
      unfold fObject
      simp only [cntL_cons, cntL_nil, cnt_int, cnt_str, cnt_ints]
      omega
    omega
theorem cnt_store {os : List ObjD} (h : storeB os = true) : D.cnt (dObjects os) ≤ 96 := by
  obtain ⟨h1, h2, h3⟩ := (storeB_iff _).1 h
  unfold dObjects
  rw [cnt_arr]
  have := cntL_objs os h1
  omega
theorem cntL_areas (zs : List AreaD) (h : ∀ a ∈ zs, storeB a.objs = true) : D.cntL (zs.flatMap fArea) ≤ 97 * zs.length := by
  induction zs with
  | nil => rw [List.flatMap_nil, cntL_nil]; exact Nat.zero_le _
  | cons a zs ih =>
    have h1 := ih fun x hx => h x (List.mem_cons_of_mem _ hx)
    have h2 := cnt_store (h a List.mem_cons_self)
    rw [List.flatMap_cons, cntL_app, List.length_cons]
    have h3 : D.cntL (fArea a) = 1 + D.cnt (dObjects a.objs) := by
      unfold fArea
      simp only [cntL_cons, cntL_nil, cnt_int]
      omega
    omega
theorem cnt_qua {q : QuaD} (h : quaB q = true) : D.cnt (dObjects q.main) + D.cnt (dAreas q.areas) ≤ 1000 := by
  obtain ⟨⟨h1, h2⟩, h3, h4⟩ := (quaB_iff _).1 h
  have k1 := cnt_store h3
  have k2 := cntL_areas q.areas fun a ha => ((fullB_iff _).1 (h1 a ha).2).2
  have k3 : D.cnt (dAreas q.areas) = D.cntL (q.areas.flatMap fArea) := by unfold dAreas; rw [cnt_arr]
  omega
theorem quaB_zero : quaB zQua = true := rfl
theorem quaB_put (q : QuaD) (t : Int) (l : List ObjD) : quaB (quaPut q t l) = true := by
  rcases hb : quaPutB q t l with _ | _
  · rcases hi : putIn q t l with _ | _
    · rw [(putIn_no hi).1]; exact quaB_zero
    · rw [quaPut_false hi hb]
      unfold putIn at hi
      simp only [Bool.and_eq_true] at hi
      exact hi.1.1
  · exact quaPut_valid hb
theorem quaB_pro (q : QuaD) (t : Int) : quaB (quaPro q t) = true := by
  rcases hb : quaProB q t with _ | _
  · rcases hi : proIn q t with _ | _
    · rw [(proIn_no hi).2.1]; exact quaB_zero
    · rw [quaPro_false (proIn_and hi).1 (proIn_and hi).2 hb]
      exact (proIn_and hi).1
  · exact quaPro_valid hb

end Go.Proofs.Ytgpjcmplnigmcaa
