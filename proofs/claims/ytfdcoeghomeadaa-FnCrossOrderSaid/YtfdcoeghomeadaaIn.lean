/-
  The walks of inRange, of the program, and of l6In, of the reference: each answers whether a number lies in a range. No condition.
-/
import Derived.Test.YtfdcoeghomeadaaBase
namespace Go.Proofs.Ytfdcoeghomeadaa
open Go.RowKit

set_option maxHeartbeats 400000 in
theorem inRange_any (n a b : Int) (w : World) :
    Calls Try.prog 44 #[.int .i64 n, .int .i64 a, .int .i64 b] w fun e w' => e = .returned (.bool (inR n a b)) ∧ w = w' := by
  go_enter Try.func44, Try.ntmps44
  go_wp2
  all_goals go_ret
  · exact ⟨by simp [inR, *], rfl⟩
  · have h : ¬ a ≤ n := by omega
    exact ⟨by simp [inR, h], rfl⟩

set_option maxHeartbeats 400000 in
theorem l6In_any (n a b : Int) (w : World) :
    Calls Try.prog 53 #[.int .i64 n, .int .i64 a, .int .i64 b] w fun e w' => e = .returned (.bool (inR n a b)) ∧ w = w' := by
  go_enter Try.func53, Try.ntmps53
  go_wp2
  all_goals go_ret
  · exact ⟨by simp [inR, *], rfl⟩
  · have h : ¬ a ≤ n := by omega
    exact ⟨by simp [inR, h], rfl⟩

end Go.Proofs.Ytfdcoeghomeadaa
