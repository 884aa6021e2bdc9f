/-
  Plain words for a law about results with depth: intervals of blocks, what a mark leaves of other data, and how many numbers a datum holds. No condition.
-/
import Derived.Test.YtgpjcmplnigmcaaMarkT
namespace Go.Proofs.Ytgpjcmplnigmcaa
set_option linter.unusedVariables false
set_option linter.unusedSimpArgs false
open Go.RowKit

/-- a value in memory of its own, in blocks from lo on and below hi -/
def OwnI (w : World) (lo hi : Nat) (d : D) (v : Value) : Prop := ∃ F : List Nat, F.Nodup ∧ (∀ g ∈ F, lo ≤ g ∧ g < hi) ∧ D.own w d F v
section
variable {w w' : World} {lo hi lo' hi' C : Nat} {d : D} {v : Value} {F : List Nat}
theorem Own.ival (h : Own w lo d v) : OwnI w lo w.heap.size d v := h
theorem OwnI.rd (h : OwnI w lo hi d v) : D.rd w lo hi d v := by
  obtain ⟨F, _, h2, h3⟩ := h
  exact D.own.rd d F v h2 h3
theorem OwnI.below (h : OwnI w lo hi d v) (hb : Below C w w') (hC : hi ≤ C) : OwnI w' lo hi d v := by
  obtain ⟨F, h1, h2, h3⟩ := h
  exact ⟨F, h1, h2, D.own.keep d F v (fun g hg => hb.block g (Nat.lt_of_lt_of_le (h2 g hg).2 hC)) h3⟩
theorem OwnI.chg (h : OwnI w lo hi d v) (hc : Chg w w' F) (hhi : hi ≤ w.heap.size) (hF : ∀ g ∈ F, g < lo ∨ hi ≤ g) : OwnI w' lo hi d v := by
  obtain ⟨G, h1, h2, h3⟩ := h
  refine ⟨G, h1, h2, D.own.keep d G v (fun g hg => hc.2.2.2.2 g (Nat.lt_of_lt_of_le (h2 g hg).2 hhi) (fun hm => ?_)) h3⟩
  have := hF g hm
  have := h2 g hg
  omega
theorem D.rd.chg (h : D.rd w lo hi d v) (hc : Chg w w' F) (hhi : hi ≤ w.heap.size) (hF : ∀ g ∈ F, g < lo ∨ hi ≤ g) : D.rd w' lo hi d v :=
  D.rd.keep (fun p g1 g2 => World.cell?_of_block (hc.2.2.2.2 p.block (Nat.lt_of_lt_of_le g2 hhi) (fun hm => by have := hF _ hm; omega))) (Nat.le_refl _) (Nat.le_refl _) _ _ h
end

theorem cnt_flat {α : Type} (f : α → List D) (h : ∀ x, D.cntL (f x) ≤ 3 + 3 * D.szL (f x)) (xs : List α) : D.cntL (xs.flatMap f) ≤ 3 * xs.length + 3 * D.szL (xs.flatMap f) := by
  induction xs with
  | nil => rw [List.flatMap_nil, cntL_nil]; omega
  | cons x xs ih =>
    rw [List.flatMap_cons, cntL_app, szL_app, List.length_cons]
    have := h x
    omega
theorem cnt_arr_le {α : Type} (f : α → List D) (h : ∀ x, D.cntL (f x) ≤ 3 + 3 * D.szL (f x)) (m : Nat) (xs : List α) : D.cnt (.arr m xs.length (xs.flatMap f)) ≤ 3 * D.sz (.arr m xs.length (xs.flatMap f)) := by
  rw [cnt_arr, sz_arr]
  have := cnt_flat f h xs
  omega
theorem cnt_ints (xs : List Int) : D.cnt (intsD xs) = xs.length := by
  unfold intsD
  rw [cnt_arr]
  induction xs with
  | nil => rw [List.map_nil, cntL_nil]; rfl
  | cons x xs ih => rw [List.map_cons, cntL_cons, cnt_int, ih, List.length_cons]; omega

end Go.Proofs.Ytgpjcmplnigmcaa
