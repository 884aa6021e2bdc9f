/-
  Plain laws on agreeB and decideI: a list turned round, a list with one more element, lists of ones. No program in sight.
-/
import Derived.Test.YtohlmfhfcgfedaaTermB
namespace Go.Proofs.Ytohlmfhfcgfedaa
open Go.RowKit

theorem hasB_rev (x : Int) (xs : List Int) : hasB x xs.reverse = hasB x xs := by unfold hasB; simp
theorem anyOut_rev (xs : List Int) : anyOut xs.reverse = anyOut xs := by unfold anyOut; rw [List.any_reverse]
theorem agreeB_rev (xs : List Int) : agreeB xs.reverse = agreeB xs := by
  unfold agreeB; rw [hasB_rev, hasB_rev, hasB_rev, anyOut_rev, List.length_reverse]
theorem agree_bad {xs : List Int} (h : agreeB xs = true) (h2 : hasB 2 xs = true) : hasB 3 xs = false ∧ hasB 0 xs = false := by
  unfold agreeB at h; rw [h2] at h
  simp only [Bool.and_eq_true, Bool.not_true, Bool.false_or, Bool.not_eq_true'] at h
  exact h.2
theorem hasB_app (x m : Int) (xs : List Int) : hasB x (xs ++ [m]) = (hasB x xs || decide (x = m)) := by
  unfold hasB; simp only [List.mem_append, List.mem_singleton]; rw [Bool.decide_or]

theorem decideI_more {xs : List Int} {m : Int} (h0 : decideI xs ≠ 0) (ha : agreeB (xs ++ [m]) = true) : decideI (xs ++ [m]) = decideI xs := by
  have h1 : agreeB xs = true := by
    rcases h : agreeB xs with _ | _
    · exact absurd (decideI_no h) h0
    · rfl
  rw [decideI_yes h1] at h0 ⊢
  rw [decideI_yes ha]
  unfold pickI at h0 ⊢
  rcases h2 : hasB 2 xs with _ | _
  · rw [h2] at h0
    have h3 : hasB 3 xs = true ∨ hasB 0 xs = true := by
      by_cases h : hasB 3 xs = true ∨ hasB 0 xs = true
      · exact h
      · simp [h] at h0
    have h3' : hasB 3 (xs ++ [m]) = true ∨ hasB 0 (xs ++ [m]) = true := by
      rcases h3 with h | h
      · left; rw [hasB_app, h]; rfl
      · right; rw [hasB_app, h]; rfl
    have h2' : hasB 2 (xs ++ [m]) = false := by
      rcases h : hasB 2 (xs ++ [m]) with _ | _
      · rfl
      · have := agree_bad ha h
        rcases h3' with h' | h'
        · rw [this.1] at h'; cases h'
        · rw [this.2] at h'; cases h'
    rw [h2']; simp [h3, h3']
  · have h2' : hasB 2 (xs ++ [m]) = true := by rw [hasB_app, h2]; rfl
    rw [h2']; simp
theorem decideI_kinds (xs : List Int) : decideI xs = 0 ∨ decideI xs = 2 ∨ decideI xs = 3 := by
  unfold decideI
  by_cases h : agreeB xs = true <;> by_cases h2 : hasB 2 xs = true <;> by_cases h3 : hasB 3 xs = true ∨ hasB 0 xs = true <;> simp [h, h2, h3]
theorem decideI_two {xs : List Int} (h : decideI xs = 2) : hasB 2 xs = true := by
  unfold decideI at h
  by_cases h1 : agreeB xs = true <;> by_cases h2 : hasB 2 xs = true <;> by_cases h3 : hasB 3 xs = true ∨ hasB 0 xs = true <;> simp [h1, h2, h3] at h ⊢

theorem ones_blocked (n : Nat) (h1 : 1 ≤ n) (h2 : n ≤ 2) : decideI (List.replicate n 1) = 0 ∧ decideI (List.replicate n 1 ++ [2]) = 2 := by
  have : n = 1 ∨ n = 2 := by omega
  rcases this with rfl | rfl <;> decide

end Go.Proofs.Ytohlmfhfcgfedaa
