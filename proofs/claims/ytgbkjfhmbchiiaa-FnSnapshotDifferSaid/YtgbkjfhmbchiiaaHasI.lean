/-
  The walk of the laws' hasInt, for all rows of numbers. No condition.
-/
import Derived.Test.YtgbkjfhmbchiiaaM8
namespace Go.Proofs.Ytgbkjfhmbchiiaa
set_option linter.unusedVariables false
set_option linter.unusedSimpArgs false
open Go.RowKit

set_option maxHeartbeats 400000 in
theorem hasInt_any (A : Option Addr) (n c : Nat) (xs : List Int) (x : Int) (w : World) (lo hi : Nat) (hn : n ≤ 9223372036854775807) (h : Ints w lo hi A n xs) :
    Calls Try.prog 12 #[.slice A n c, .int .i64 x] w fun e w' => e = .returned (.bool (hasB x xs)) ∧ w = w' := by
  have HI := Lib.hid h
  clear h
  go_enter Try.func12, Try.ntmps12
  go_wp2
  go_loop [5] (fun i => ∃ k : Nat, k ≤ n ∧ i = .int .i64 k ∧ x ∉ xs.take k) (fun i => n - (intOf i).toNat)
  case atStart => exact ⟨0, Nat.zero_le _, rfl, by simp⟩
  case round =>
    obtain ⟨k, hk, rfl, hx⟩ := hrel
    by_cases hlt : k < n
    · obtain ⟨b, o, hl, rfl, _, _, hc⟩ := HI.out.int hlt
      by_cases he : xs[k] = x
      · have hd : (xs[k] == x) = true := by simp [he]
        go_wp2
        go_ret
        exact ⟨ret_bool (hasB_at hl he).symm, rfl⟩
      · have hd : (xs[k] == x) = false := by simp [beq_eq_false_iff_ne]; exact he
        have hx' := take_mem_succ hl hx he
        go_wp2
        exact ⟨⟨k + 1, by omega, by go_num, hx'⟩, by simp [intOf]; omega⟩
    · have hkn : k = n := by omega
      subst hkn
      go_wp2
      go_ret
      exact ⟨ret_bool (hasB_none HI.out.1 hx).symm, rfl⟩

end Go.Proofs.Ytgbkjfhmbchiiaa
