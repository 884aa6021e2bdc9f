/-
  Plain laws: what byId makes of one list and of two; a promoted main store holds what the two lists held.
-/
import Derived.Test.YtgpjcmplnigmcaaReaT
import Derived.Test.YtgpjcmplnigmcaaReaI
import Derived.Test.YtgpjcmplnigmcaaM13
namespace Go.Proofs.Ytgpjcmplnigmcaa
set_option linter.unusedVariables false
set_option linter.unusedSimpArgs false
open Go.RowKit

theorem getO_cons (o : ObjD) (os : List ObjD) (i : Int) : getO (o :: os) i = if idB o = i then some o else getO os i := by
  unfold getO
  by_cases e : idB o = i
  · rw [List.find?_cons_of_pos (by simp [e]), if_pos e]
  · rw [List.find?_cons_of_neg (by simp [e]), if_neg e]
theorem setL_get {os : List ObjD} : AscO os → ∀ (M : Int → Option ObjD) (i : Int), setL M os i = (getO os i).or (M i) := by
  induction os with
  | nil => intro _ M i; simp [setL, getO]
  | cons o os ih =>
    intro ha M i
    unfold AscO at ha
    obtain ⟨h1, h2⟩ := List.pairwise_cons.1 ha
    have h3 : setL M (o :: os) i = setL (fun j => if j = idB o then some o else M j) os i := rfl
    rw [h3, ih h2, getO_cons]
    by_cases e : idB o = i
    · have hn : getO os i = none := getO_none.2 fun p hp e2 => by have := h1 p hp; omega
      rw [if_pos e, hn, if_pos e.symm]; rfl
    · rw [if_neg e, if_neg (fun h => e h.symm)]
theorem byL_one (oss : Fin 1 → List ObjD) (h : AscO (oss 0)) : byL oss (bk 1 0) = getO (oss 0) := by
  funext i
  have e : byL oss (bk 1 0) = setL (fun _ => none) (oss 0) := rfl
  rw [e, setL_get h]
  simp
theorem byL_two (oss : Fin 2 → List ObjD) (h0 : AscO (oss 0)) (h1 : AscO (oss 1)) : byL oss (bk 2 0) = getO (oss 0 ++ oss 1) := by
  funext i
  have e : byL oss (bk 2 0) = setL (setL (fun _ => none) (oss 1)) (oss 0) := rfl
  rw [e, setL_get h0, setL_get h1]
  unfold getO
  rw [List.find?_append]
  simp
theorem getO_all {s l : List ObjD} (hs : AscO s) (hl : AscO l) (hr : AscO (allP s l).1) (h : (allP s l).2 = true) : getO (allP s l).1 = getO (s ++ l) := by
  funext i
  have ha : getO (s ++ l) i = (getO s i).or (getO l i) := by unfold getO; rw [List.find?_append]
  rw [ha]
  rcases hg : getO (allP s l).1 i with _ | o
  · have h1 := getO_none.1 hg
    have h2 : getO s i = none := getO_none.2 fun p hp => h1 p ((allP_mem h p).2 (.inl hp))
    have h3 : getO l i = none := getO_none.2 fun p hp => h1 p ((allP_mem h p).2 (.inr hp))
    rw [h2, h3]; rfl
  · obtain ⟨h1, h2⟩ := getO_some hg
    subst h2
    rcases hgs : getO s (idB o) with _ | o'
    · rcases (allP_mem h o).1 h1 with h3 | h3
      · rw [getO_mem hs h3] at hgs; cases hgs
      · rw [getO_mem hl h3]; rfl
    · obtain ⟨h3, h4⟩ := getO_some hgs
      have h5 := getO_mem hr ((allP_mem h o').2 (.inl h3))
      rw [h4, hg] at h5
      rw [h5]; rfl
theorem areaL_asc {q : QuaD} (h : quaB q = true) (t : Int) : AscO (areaL q.areas t) := ((storeB_iff _).1 (areaL_store h t)).2.1
/-- what is missing is so still after a promotion -/
theorem misL_promote {q : QuaD} {t : Int} (h : quaProB q t = true) (frm : List Int) : misL (getO (quaPro q t).main) frm = misL (getO (q.main ++ areaL q.areas t)) frm ∧ storeB (quaPro q t).main = true := by
  have hv := quaPro_valid h
  obtain ⟨h1, h2, h3, h4⟩ := quaPro_true h
  obtain ⟨h5, h6⟩ := proIn_and h1
  have hsv := ((quaB_iff _).1 hv).2.1
  refine ⟨?_, hsv⟩
  rw [h4] at hsv ⊢
  have hs := ((storeB_iff _).1 ((quaB_iff _).1 h5).2.1).2.1
  rw [getO_all hs (areaL_asc h5 t) ((storeB_iff _).1 hsv).2.1 h3]
/-- the missing half of what reach hands back -/
theorem reach_mis {M : Int → Option ObjD} {frm st ms : List Int} (h : WorkQ M frm [] st ms) : srt ms = misL M frm ∧ srt st = stoL M frm ∧ ms.length = (misL M frm).length ∧ st.length = (stoL M frm).length := by
  have hp : ∀ xs : List Int, (srt xs).Perm xs := fun xs => by unfold srt; exact List.mergeSort_perm _ _
  have ha : ∀ xs : List Int, (srt xs).Pairwise (· ≤ ·) := fun xs => by
    unfold srt
    have := List.pairwise_mergeSort (le := fun (x y : Int) => decide (x ≤ y)) (fun a b c h1 h2 => by simp at *; omega) (fun a b => by simp; omega) xs
    exact this.imp fun h => by simpa using h
  obtain ⟨h1, h2⟩ := h.halves (hp st) (ha st) (hp ms) (ha ms)
  have e1 : srt ms = misL M frm := h2
  have e2 : srt st = stoL M frm := h1
  exact ⟨e1, e2, by rw [← e1, srt_len], by rw [← e2, srt_len]⟩

end Go.Proofs.Ytgpjcmplnigmcaa
