/-
  The walk of slices.Repeat at one int four times, and of newHistory of the program. No condition.
-/
import Derived.Test.YtgnhanbdfohjaaaImplB
import Derived.RegionTactic
namespace Go.Proofs.Ytgnhanbdfohjaaa
set_option linter.unusedVariables false
set_option linter.unusedSimpArgs false
open Go.RowKit

set_option maxRecDepth 100000 in
set_option maxHeartbeats 1600000 in
theorem mul_any (w : World) : Calls Try.prog 80 #[.int .u64 1, .int .u64 4] w fun e w' => e = .returned (.tuple #[.int .u64 0, .int .u64 4]) ∧ w = w' := by
  go_enter Try.func80, Try.ntmps80
  go_wp2
  go_ret2
  exact ⟨rfl, rfl⟩

theorem setCell_lit (w : World) (c : Array Value) (t : TypeId) (m i : Nat) (v : Value) : ((w.alloc (.cells c t)).drewN m).setCell ⟨w.heap.size, i, none⟩ v = (w.alloc (.cells (c.setIfInBounds i v) t)).drewN m := by
  rw [← World.setCell_alloc_at (w := w) c t w.heap.size i v rfl]; rfl
theorem run_copy_lit (w : World) (c : Array Value) (o n d so k e : Nat) (cs : List Value) (m : Nat) (hk : cs.length = Nat.min k n) (hs : ∀ (j : Nat) v, cs[j]? = some v → c[so + j]? = some v) (hf : o + cs.length ≤ c.size) (h1 : ∀ v ∈ cs, v.oneCell' = true) :
    (Builtin.copy_ #[28, 28] 3 #[.slice (some ⟨w.heap.size, o, none⟩) n d, .slice (some ⟨w.heap.size, so, none⟩) k e]).run Try.prog ((w.alloc (.cells c 3)).drewN m) =
      .ok (goInt cs.length) (((w.alloc (.cells c 3)).drewN m).setCells w.heap.size o cs) := by
  have hn := heap_alloc_new w (.cells c 3)
  have hcell : ∀ j, ((w.alloc (.cells c 3)).drewN m).cell? ⟨w.heap.size, j, none⟩ = c[j]? := fun j => cell_of_row _ _ _ _ _ _ hn
  have hfro : ∀ j, ((w.alloc (.cells c 3)).drewN m).frozen? ⟨w.heap.size, j, none⟩ = false := fun j => frozen_of_row _ _ _ _ _ hn
  refine run_copy_cells (P := Try.prog) ((w.alloc (.cells c 3)).drewN m) 28 28 3 3 w.heap.size o n d ⟨w.heap.size, so, none⟩ k e cs Try.underlying28 (by kernel_rfl) hk ?_ ?_ (fun j _ => hfro _) h1
  · intro j v hv
    have e2 : (⟨w.heap.size, so, none⟩ : Addr).add j = ⟨w.heap.size, so + j, none⟩ := by
      unfold Addr.add
      by_cases hj : j = 0 <;> simp [hj]
    rw [e2, hcell]; exact hs j v hv
  · intro j hj
    rw [hcell, Array.getElem?_eq_getElem (by omega)]; rfl

set_option maxRecDepth 100000 in
set_option maxHeartbeats 1600000 in
theorem repeat_any (g : Nat) (w : World) (hc : w.cell? ⟨g, 0, none⟩ = some (.int .i64 (-1))) (hg : g < w.heap.size) :
    Calls Try.prog 72 #[.slice (some ⟨g, 0, none⟩) 1 1, .int .i64 4] w fun e w' => e = .returned (.slice (some ⟨w.heap.size, 0, none⟩) 4 4) ∧ TabX w' w.heap.size 3 [-1, -1, -1, -1] [] ∧ Below w.heap.size w w' := by
  have hmk : ∀ w, (Instr.makeSlice 28 (.int .i64 4) (.int .i64 4)).run Try.prog w = .ok (.slice (some ⟨w.heap.size, 0, none⟩) 4 4) (w.alloc (.cells #[.int .i64 0, .int .i64 0, .int .i64 0, .int .i64 0] 3)) := fun _ => by kernel_rfl
  have hcg : ∀ o : Obj, (w.alloc o).cell? ⟨g, 0, none⟩ = some (.int .i64 (-1)) := fun o => (World.cell?_alloc_lt w o ⟨g, 0, none⟩ hg).trans hc
  have hk1 : (Builtin.copy_ #[28, 28] 3 #[.slice (some ⟨w.heap.size, 0, none⟩) 4 4, .slice (some ⟨g, 0, none⟩) 1 1]).run Try.prog (w.alloc (.cells #[.int .i64 0, .int .i64 0, .int .i64 0, .int .i64 0] 3)) = .ok (.int .i64 1) (w.alloc (.cells #[.int .i64 (-1), .int .i64 0, .int .i64 0, .int .i64 0] 3)) := by
    have hn := heap_alloc_new w (.cells #[.int .i64 0, .int .i64 0, .int .i64 0, .int .i64 0] 3)
    have := run_copy_cells (P := Try.prog) (w.alloc (.cells #[.int .i64 0, .int .i64 0, .int .i64 0, .int .i64 0] 3)) 28 28 3 3 w.heap.size 0 4 4 ⟨g, 0, none⟩ 1 1 [.int .i64 (-1)] Try.underlying28 (by kernel_rfl) rfl
      (by
        intro j v hv
        rcases j with _ | j
        · simp at hv; rw [← hv]; exact hcg _
        · simp at hv)
      (by
        intro j hj
        rcases j with _ | j
        · rw [cell_of_row _ _ _ _ _ _ hn]; rfl
        · simp at hj)
      (fun j _ => frozen_of_row _ _ _ _ _ hn) (by simp [Value.oneCell'])
    rw [this]
    exact congrArg (Result.ok _) (World.setCell_alloc_at (w := w) _ _ _ _ _ rfl)
  have hk2 : ∀ m, (Builtin.copy_ #[28, 28] 3 #[.slice (some ⟨w.heap.size, 1, none⟩) 3 3, .slice (some ⟨w.heap.size, 0, none⟩) 1 4]).run Try.prog ((w.alloc (.cells #[.int .i64 (-1), .int .i64 0, .int .i64 0, .int .i64 0] 3)).drewN m) = .ok (.int .i64 1) ((w.alloc (.cells #[.int .i64 (-1), .int .i64 (-1), .int .i64 0, .int .i64 0] 3)).drewN m) := by
    intro m
    rw [run_copy_lit w _ 1 3 3 0 1 4 [.int .i64 (-1)] m rfl (by intro j v hv; rcases j with _ | j <;> simp at hv ⊢; exact hv) (by simp) (by simp [Value.oneCell'])]
    exact congrArg (Result.ok _) (setCell_lit w _ _ m 1 _)
  have hk3 : ∀ m, (Builtin.copy_ #[28, 28] 3 #[.slice (some ⟨w.heap.size, 2, none⟩) 2 2, .slice (some ⟨w.heap.size, 0, none⟩) 2 4]).run Try.prog ((w.alloc (.cells #[.int .i64 (-1), .int .i64 (-1), .int .i64 0, .int .i64 0] 3)).drewN m) = .ok (.int .i64 2) ((w.alloc (.cells #[.int .i64 (-1), .int .i64 (-1), .int .i64 (-1), .int .i64 (-1)] 3)).drewN m) := by
    intro m
    rw [run_copy_lit w _ 2 2 2 0 2 4 [.int .i64 (-1), .int .i64 (-1)] m rfl (by intro j v hv; rcases j with _ | _ | j <;> simp at hv ⊢ <;> exact hv) (by simp) (by simp [Value.oneCell'])]
    show Result.ok _ ((World.setCell _ _ _).setCell _ _) = _
    rw [setCell_lit, setCell_lit]; rfl
  go_enter Try.func72, Try.ntmps72
  go_wp2_with (go_at_call 80; refine (mul_any _).mono ?_; rintro e w' ⟨rfl, rfl⟩)
  have hk2d := hk2 1
  change (Builtin.copy_ #[28, 28] 3 #[.slice (some ⟨w.heap.size, 1, none⟩) 3 3, .slice (some ⟨w.heap.size, 0, none⟩) 1 4]).run Try.prog ((w.alloc (.cells #[.int .i64 (-1), .int .i64 0, .int .i64 0, .int .i64 0] 3)).drew) = .ok (.int .i64 1) ((w.alloc (.cells #[.int .i64 (-1), .int .i64 (-1), .int .i64 0, .int .i64 0] 3)).drew) at hk2d
  refine wp_loop_rounds 3 ?_
  rw [rounds_succ]
  go_wp2_with fail
  go_region
  go_wp2_with fail
  rw [rounds_succ]
  go_wp2_with fail
  have hk3d := hk3 2
  change (Builtin.copy_ #[28, 28] 3 #[.slice (some ⟨w.heap.size, 2, none⟩) 2 2, .slice (some ⟨w.heap.size, 0, none⟩) 2 4]).run Try.prog ((w.alloc (.cells #[.int .i64 (-1), .int .i64 (-1), .int .i64 0, .int .i64 0] 3)).drew.drew) = .ok (.int .i64 2) ((w.alloc (.cells #[.int .i64 (-1), .int .i64 (-1), .int .i64 (-1), .int .i64 (-1)] 3)).drew.drew) at hk3d
  go_region
  go_wp2_with fail
  rw [rounds_succ]
  go_wp2_with fail
  go_ret
  exact ⟨rfl, heap_alloc_new w _, (((Below.refl _ _).alloc (Nat.le_refl _) _).drew).drew⟩

/-- the last record of a transaction, with its header -/
def lastC (rs : List RecC) (t : Int) : Option RecC := rs.foldl (fun o r => if r.txn = t then some r else o) none
theorem lastC_snoc (rs : List RecC) (r : RecC) (t : Int) : lastC (rs ++ [r]) t = if r.txn = t then some r else lastC rs t := by
  unfold lastC; rw [List.foldl_append]; rfl
theorem lastC_abs (rs : List RecC) (t : Int) : (lastC rs t).map RecC.ab = lastRc (abs rs) t := by
  induction rs using snoc_ind with
  | nil => rfl
  | snoc rs r ih =>
    rw [lastC_snoc]
    have e : abs (rs ++ [r]) = abs rs ++ [r.ab] := by unfold abs; rw [List.map_append]; rfl
    rw [e, lastRc_snoc, ← ih]
    by_cases h : r.txn = t
    · rw [if_pos h, if_pos (show r.ab.txn = t from h)]; rfl
    · rw [if_neg h, if_neg (show ¬ r.ab.txn = t from h)]
theorem lastC_mem {rs : List RecC} {t : Int} {r : RecC} (h : lastC rs t = some r) : r ∈ rs ∧ r.txn = t := by
  induction rs using snoc_ind with
  | nil => cases h
  | snoc rs x ih =>
    rw [lastC_snoc] at h
    by_cases hx : x.txn = t
    · rw [if_pos hx] at h; injection h with h; subst h; exact ⟨by simp, hx⟩
    · rw [if_neg hx] at h; have := ih h; exact ⟨by simp [this.1], this.2⟩
/-- the program's history behind some records: refs, locks and the last record of each transaction, in blocks from base on -/
def HistC (w : World) (base hb n : Nat) (done : List RecC) (s : St) : Prop := ∃ lb mb, TabX w hb 63 s.refs [.slice (some ⟨lb, 0, none⟩) 4 4, .map (some mb)] ∧ TabX w lb 3 s.locks [] ∧
  MapI Try.prog 3 w mb n (fun t => (lastC done t).map rv) ∧ base ≤ hb ∧ base ≤ lb ∧ base ≤ mb ∧ hb ≠ lb ∧ hb ≠ mb ∧ lb ≠ mb

theorem cell_zero {w : World} {g : Nat} {u : Value} {t : TypeId} {cs : List Value} (h : w.heap[g]? = some (.cells (u :: cs).toArray t (0, 0))) : w.cell? ⟨g, 0, none⟩ = some u := by
  rw [cell_of_row w g 0 _ _ _ h]; rfl

set_option maxRecDepth 100000 in
set_option maxHeartbeats 1600000 in
theorem newHistory_any (w : World) : Calls Try.prog 55 #[] w fun e w' => ∃ hb, HistC w' w.heap.size hb 0 [] st0 ∧ Below w.heap.size w w' ∧ e = .returned (.pointer (some ⟨hb, 0, none⟩)) := by
  have hmm := @run_makeMap Try.prog
  go_enter Try.func55, Try.ntmps55
  go_wp2_with fail
  refine (noRefs_any _).mono ?_
  rintro e w1 ⟨rfl, hb1⟩
  have HB1 := Lib.hid hb1
  clear hb1
  go_wp2_with fail
  have hH : (((w1.alloc (.map #[] 0)).alloc (.cells #[.int .i64 (-1), .int .i64 (-1), .int .i64 (-1), .int .i64 (-1), .slice none 0 0, .map (some w1.heap.size)] 63)).alloc (.cells #[.int .i64 (-1)] 3)).heap[w1.heap.size + 1]? = some (.cells #[.int .i64 (-1), .int .i64 (-1), .int .i64 (-1), .int .i64 (-1), .slice none 0 0, .map (some w1.heap.size)] 63 (0, 0)) :=
    (Below.heap_alloc _ _ _ (by simp)).trans (by simpa using heap_alloc_new (w1.alloc (.map #[] 0)) (.cells #[.int .i64 (-1), .int .i64 (-1), .int .i64 (-1), .int .i64 (-1), .slice none 0 0, .map (some w1.heap.size)] 63))
  have hL : (((w1.alloc (.map #[] 0)).alloc (.cells #[.int .i64 (-1), .int .i64 (-1), .int .i64 (-1), .int .i64 (-1), .slice none 0 0, .map (some w1.heap.size)] 63)).alloc (.cells #[.int .i64 (-1)] 3)).heap[w1.heap.size + 1 + 1]? = some (.cells #[.int .i64 (-1)] 3 (0, 0)) := by
    simpa using heap_alloc_new ((w1.alloc (.map #[] 0)).alloc (.cells #[.int .i64 (-1), .int .i64 (-1), .int .i64 (-1), .int .i64 (-1), .slice none 0 0, .map (some w1.heap.size)] 63)) (.cells #[.int .i64 (-1)] 3)
  have hM := ((MapI.made w1 Try.prog 3).alloc (.cells #[.int .i64 (-1), .int .i64 (-1), .int .i64 (-1), .int .i64 (-1), .slice none 0 0, .map (some w1.heap.size)] 63)).alloc (.cells #[.int .i64 (-1)] 3)
  have hBB := ((HB1.out.alloc HB1.out.size (.map #[] 0)).alloc (by have := HB1.out.size; simp; omega) (.cells #[.int .i64 (-1), .int .i64 (-1), .int .i64 (-1), .int .i64 (-1), .slice none 0 0, .map (some w1.heap.size)] 63)).alloc (by have := HB1.out.size; simp; omega) (.cells #[.int .i64 (-1)] 3)
  have hww := HB1.out.size
  have hzz : (((w1.alloc (.map #[] 0)).alloc (.cells #[.int .i64 (-1), .int .i64 (-1), .int .i64 (-1), .int .i64 (-1), .slice none 0 0, .map (some w1.heap.size)] 63)).alloc (.cells #[.int .i64 (-1)] 3)).heap.size = w1.heap.size + 1 + 1 + 1 := by simp
  refine (repeat_any (w1.heap.size + 1 + 1) _ (cell_zero hL) (heap_lt hL)).mono ?_
  rintro e w3 ⟨rfl, ht, hb3⟩
  rw [hzz] at ht hb3 ⊢
  have hH3 : w3.heap[w1.heap.size + 1]? = some (.cells #[.int .i64 (-1), .int .i64 (-1), .int .i64 (-1), .int .i64 (-1), .slice none 0 0, .map (some w1.heap.size)] 63 (0, 0)) := (hb3.block _ (by omega)).trans hH
  have HM3 := Lib.hid (hM.kept (grown_none (hb3.mono (by rw [hzz]; exact Nat.le_refl _)) none) (by simp))
  have HB3 : Hid (Below w.heap.size w w3) := hBB.trans (hb3.mono (by omega))
  have HT3 := Lib.hid ht
  have HH3 := Lib.hid hH3
  have hc4 : w3.cell? ⟨w1.heap.size + 1, 4, none⟩ = some (.slice none 0 0) := cell_of_row _ _ 4 _ _ _ hH3
  have hf4 : w3.frozen? ⟨w1.heap.size + 1, 4, none⟩ = false := frozen_of_row _ _ 4 _ _ hH3
  clear hH hL hM hBB hzz ht hb3 hH3 hmm
  go_wp2_with fail
  go_ret
  refine ⟨w1.heap.size + 1, ⟨w1.heap.size + 1 + 1 + 1, w1.heap.size, ?_, ?_, ?_, by omega, by omega, by omega, by omega, by omega, by omega⟩, ?_, rfl⟩
  · unfold TabX
    rw [heap_setCell_same _ _ _ _ _ _ HH3.out]; rfl
  · exact HT3.out.grown (set_grown _ _ _ _) (by simp)
  · exact HM3.out.kept (set_grown _ _ _ _) (by simp)
  · exact HB3.out.setCell (by show w.heap.size ≤ w1.heap.size + 1; omega) _

end Go.Proofs.Ytgnhanbdfohjaaa
