/-
  A drawn shard is calm: no vote in it meets a locked ref of another one.
-/
import Derived.Test.YtgnhanbdfohjaaaDrawT
import Derived.Test.YtgnhanbdfohjaaaImplJ
namespace Go.Proofs.Ytgnhanbdfohjaaa
set_option linter.unusedVariables false
set_option linter.unusedSimpArgs false
open Go.RowKit

theorem calm_valid {rs : List Rec} (h : (recov rs).2 = true) : Calm rs := fun k hk _ => by
  intro h1 _ _ _
  have h2 := recov_take h (k + 1)
  rw [List.take_succ_eq_append_getElem hk, recov_snoc, if_pos (recov_take h k)] at h2
  by_cases h3 : stepB (rs.take k) (recov (rs.take k)).1 rs[k] = true
  · rcases ((stepB_iff _ _ _).1 h3).2 with ⟨_, _, _, _, h⟩ | ⟨h, _⟩ | ⟨h, _⟩
    · exact h
    · omega
    · omega
  · rw [if_neg h3] at h2; cases h2
theorem calm_snoc {rs : List Rec} {r : Rec} (h : Calm rs) (hr : r.us = []) : Calm (rs ++ [r]) := fun k hk hv => by
  by_cases hlt : k < rs.length
  · have e1 : (rs ++ [r]).take k = rs.take k := List.take_append_of_le_length (by omega)
    have e2 : (rs ++ [r])[k] = rs[k] := List.getElem_append_left hlt
    rw [e1] at hv ⊢
    rw [e2]
    exact h k hlt hv
  · have hk' : k = rs.length := by simp at hk; omega
    subst hk'
    have e2 : (rs ++ [r])[rs.length] = r := by simp
    rw [e2]
    intro _ _ _ _
    rw [hr]; rfl
theorem lastRc_cons (r : Rec) (l : List Rec) (t : Int) : lastRc (r :: l) t = match lastRc l t with | some q => some q | none => if r.txn = t then some r else none := by
  induction l using snoc_ind with
  | nil => rfl
  | snoc l x ih =>
    rw [← List.cons_append, lastRc_snoc, lastRc_snoc, ih]
    by_cases h : x.txn = t
    · rw [if_pos h, if_pos h]
    · rw [if_neg h, if_neg h]
theorem lockFit_iff (locks : List Int) (us : List Upd) : lockFit locks us = true ↔ ∀ u ∈ us, getR locks u.ref = -1 := by
  unfold lockFit; rw [List.all_eq_true]; exact forall_congr' fun u => forall_congr' fun _ => decide_eq_true_iff
theorem calm_tail {r0 : Rec} {l : List Rec} (h : (recov (r0 :: l)).2 = true) : Calm l := fun k hk' hv => by
    intro h1 h2 h3 h4
    have I' := (hist_of hv).inv
    have hb := recov_take h (k + 1)
    have I := (hist_of hb).inv
    have eb : (r0 :: l).take (k + 1) = r0 :: l.take k := rfl
    rw [eb] at hb I
    have h5 := recov_take h (k + 2)
    have e5 : (r0 :: l).take (k + 2) = (r0 :: l.take k) ++ [l[k]] := by
      show r0 :: l.take (k + 1) = _
      rw [List.take_succ_eq_append_getElem hk']; rfl
    rw [e5, recov_snoc, if_pos hb] at h5
    by_cases h6 : stepB (r0 :: l.take k) (recov (r0 :: l.take k)).1 l[k] = true
    · rcases ((stepB_iff _ _ _).1 h6).2 with ⟨_, _, _, _, h7⟩ | ⟨h7, _⟩ | ⟨h7, _⟩
      · rw [lockFit_iff] at h7 ⊢
        intro u hu
        have hr := ((uokB_iff u).1 ((updsB_asc h3).1.mem u hu).1).1
        rcases (I'.lock u.ref hr.1 hr.2).1 with h8 | h8
        · exact h8
        · have h9 := (txB_iff _).1 h8
          obtain ⟨q, hq, hq1, hq2⟩ := ((I'.lock u.ref hr.1 hr.2).2 _ h9.1).1 rfl
          have h10 := ((I.lock u.ref hr.1 hr.2).2 (getR (recov (l.take k)).1.locks u.ref) h9.1).2 ⟨q, by rw [lastRc_cons, hq], hq1, hq2⟩
          have h11 := h7 u hu
          omega
      · omega
      · omega
    · rw [if_neg h6] at h5; cases h5
theorem calm_drop1 {rs : List Rec} (h : (recov rs).2 = true) : Calm (rs.drop 1) := by
  rcases rs with _ | ⟨r0, l⟩
  · intro k hk; simp at hk
  · exact calm_tail h
theorem calm_drawn {rs : List Rec} (h : DrawnL rs) : Calm rs := by
  have hv : ∀ {l : List Rec}, shardB l = true → (recov l).2 = true := fun hl => by
    unfold shardB at hl; exact (Bool.and_eq_true _ _ |>.mp hl).1
  rcases h with h | ⟨rs0, k, t, rfl, h⟩ | ⟨rs0, rfl, h⟩
  · exact calm_valid (hv h)
  · exact calm_snoc (calm_valid (hv h)) rfl
  · exact calm_drop1 (hv h)

end Go.Proofs.Ytgnhanbdfohjaaa
