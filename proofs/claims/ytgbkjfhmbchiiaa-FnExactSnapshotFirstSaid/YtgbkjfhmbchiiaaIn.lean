/-
  The walks of inRange, of the program, and of l6In, of the reference: each answers whether a number lies in a range. No condition.
-/
import Derived.Test.YtgbkjfhmbchiiaaBase
namespace Go.Proofs.Ytgbkjfhmbchiiaa
set_option linter.unusedVariables false
set_option linter.unusedSimpArgs false
open Go.RowKit

set_option maxHeartbeats 400000 in
theorem inRange_any (n a b : Int) (w : World) :
    Calls Try.prog 39 #[.int .i64 n, .int .i64 a, .int .i64 b] w fun e w' => e = .returned (.bool (inR n a b)) ∧ w = w' := by
  go_enter Try.func39, Try.ntmps39
  go_wp2
  all_goals go_ret
  · exact ⟨by simp [inR, *], rfl⟩
  · have h : ¬ a ≤ n := by omega
    exact ⟨by simp [inR, h], rfl⟩

set_option maxHeartbeats 400000 in
theorem l6In_any (n a b : Int) (w : World) :
    Calls Try.prog 41 #[.int .i64 n, .int .i64 a, .int .i64 b] w fun e w' => e = .returned (.bool (inR n a b)) ∧ w = w' := by
  go_enter Try.func41, Try.ntmps41
  go_wp2
  all_goals go_ret
  · exact ⟨by simp [inR, *], rfl⟩
  · have h : ¬ a ≤ n := by omega
    exact ⟨by simp [inR, h], rfl⟩

end Go.Proofs.Ytgbkjfhmbchiiaa
