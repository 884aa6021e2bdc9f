/-
  The walks of sameInts and sameState: where two slices read alike the answer is true. Condition: lengths fit an int64.
-/
import Derived.Test.YtgnhanbdfohjaaaRecS
namespace Go.Proofs.Ytgnhanbdfohjaaa
set_option linter.unusedVariables false
set_option linter.unusedSimpArgs false
open Go.RowKit

set_option maxHeartbeats 400000 in
theorem sameInts_any (A A' : Option Addr) (n c c' : Nat) (xs : List Int) (w : World) (lo hi lo' hi' : Nat) (hn : n ≤ 9223372036854775807) (h : Ints w lo hi A n xs) (h' : Ints w lo' hi' A' n xs) :
    Calls Try.prog 21 #[.slice A n c, .slice A' n c'] w fun e w' => e = .returned (.bool true) ∧ ∃ m, w' = w.drewN m := by
  have HI := Lib.hid h
  have HJ := Lib.hid h'
  have hnn : (!((n : Int) == n)) = false := by simp
  clear h h'
  go_enter Try.func21, Try.ntmps21
  go_wp2
  go_loopw [5] (fun i wr => ∃ k : Nat, k ≤ n ∧ i = .int .i64 k ∧ ∃ m, wr = w.drewN m) (fun i _ => n - (intOf i).toNat)
  case atStart => exact ⟨0, Nat.zero_le _, rfl, 0, rfl⟩
  case round =>
    obtain ⟨k, hk, rfl, m, rfl⟩ := hrel
    by_cases hlt : k < n
    · obtain ⟨b, o, hl, rfl, _, _, hc⟩ := HI.out.int hlt
      obtain ⟨b', o', hl', rfl, _, _, hc'⟩ := HJ.out.int hlt
      have hd : (!(xs[k] == xs[k])) = false := by simp
      go_wp2
      go_quiet (fail)
      go_wp2
      exact ⟨⟨k + 1, by omega, by go_num, m + nq, rfl⟩, by simp [intOf]; omega⟩
    · have hkn : k = n := by omega
      subst hkn
      go_wp2
      go_ret
      exact ⟨rfl, m, rfl⟩

set_option linter.unusedVariables false in
set_option maxRecDepth 100000 in
set_option maxHeartbeats 400000 in
theorem sameState_any (A A' B B' : Option Addr) (n m c c' d d' : Nat) (xs ys : List Int) (w : World) (lo lo' lo2 lo2' : Nat) (hn : n ≤ 1000) (hm : m ≤ 1000) (h : FlH ci w lo A n xs) (h' : FlH ci w lo' A' n xs) (k : FlH ci w lo2 B m ys) (k' : FlH ci w lo2' B' m ys) :
    Calls Try.prog 20 #[.agg #[.slice A n c, .slice B m d], .agg #[.slice A' n c', .slice B' m d']] w fun e w' => e = .returned (.bool true) ∧ Below w.heap.size w w' := by
  have H1 := Lib.hid ((h.alloc (.cells #[.slice A n c, .slice B m d] 30)).alloc (.cells #[.slice A' n c', .slice B' m d'] 30))
  have H2 := Lib.hid ((h'.alloc (.cells #[.slice A n c, .slice B m d] 30)).alloc (.cells #[.slice A' n c', .slice B' m d'] 30))
  have H3 := Lib.hid ((k.alloc (.cells #[.slice A n c, .slice B m d] 30)).alloc (.cells #[.slice A' n c', .slice B' m d'] 30))
  have H4 := Lib.hid ((k'.alloc (.cells #[.slice A n c, .slice B m d] 30)).alloc (.cells #[.slice A' n c', .slice B' m d'] 30))
  clear h h' k k'
  go_enter Try.func20, Try.ntmps20
  go_wp2_with fail
  refine (sameInts_any _ _ _ _ _ xs _ _ _ _ _ (by omega) H1.out H2.out).mono ?_
  rintro e w4 ⟨rfl, m4, rfl⟩
  go_wp2_with fail
  refine (sameInts_any _ _ _ _ _ ys _ _ _ _ _ (by omega) (H3.out.drewN m4) (H4.out.drewN m4)).mono ?_
  rintro e w5 ⟨rfl, m5, rfl⟩
  go_wp2_with fail
  go_ret
  have hb := ((Below.refl w.heap.size w).alloc (Nat.le_refl _) (.cells #[.slice A n c, .slice B m d] 30)).alloc (by simp) (.cells #[.slice A' n c', .slice B' m d'] 30)
  exact ⟨rfl, ⟨hb.os, hb.tape, hb.output, hb.size, hb.block⟩⟩

end Go.Proofs.Ytgnhanbdfohjaaa
