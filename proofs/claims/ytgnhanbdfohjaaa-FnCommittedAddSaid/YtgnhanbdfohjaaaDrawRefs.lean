/-
  The walks of l92Value, l92Refs, l92Updates, DrawRefsApply and DrawRefsDiffer: short slices in new memory. Condition: the reader's place is small.
-/
import Derived.Test.YtgnhanbdfohjaaaDrawKit
import Derived.Test.YtgnhanbdfohjaaaRefsB
import Derived.Deep.CutBlock
namespace Go.Proofs.Ytgnhanbdfohjaaa
set_option linter.unusedVariables false
set_option linter.unusedSimpArgs false
open Go.RowKit

set_option maxHeartbeats 800000 in
theorem l92Value_any (g K : Nat) (w : World) (hK : K ≤ 1000000000 - 10) (h : Rdr w g K) :
    Calls Try.prog 70 #[.pointer (some ⟨g, 0, none⟩)] w fun e w' => ∃ x : Int, DrawT w w' g (K + 3) ∧ e = .returned (.int .i64 x) := by
  have HR := Lib.hid (DrawT.refl h)
  clear h
  go_enter Try.func70, Try.ntmps70
  go_wp2_with fail
  refine (pick_any g K 30 _ (by omega) HR.out.2).mono ?_
  rintro e w1 ⟨r1, hr1, hR1, hg1, -, rfl⟩
  have HS1 := Lib.hid (HR.out.step hg1 hR1)
  clear hR1 hg1 hr1 HR
  by_cases h0 : r1 = 0
  · have hd : (r1 == 0) = true := by simp [h0]
    clear h0
    have HA := Lib.hid (HS1.out.alloc (.cells #[.int .i64 (-2), .int .i64 990, .int .i64 991] 3))
    have hn := new_cell w1 #[.int .i64 (-2), .int .i64 990, .int .i64 991] 3
    have hbl : w1.heap.size < (w1.alloc (.cells #[.int .i64 (-2), .int .i64 990, .int .i64 991] 3)).heap.size := by simp
    go_wp2_with fail
    refine (pick_any g (K + 1) 3 _ (by omega) HA.out.2).mono ?_
    rintro e w2 ⟨r2, hr2, hR2, hg2, -, rfl⟩
    have HS2 := Lib.hid (HA.out.step hg2 hR2)
    obtain ⟨q, rfl⟩ := Int.eq_ofNat_of_zero_le hr2.1
    have hq := hr2.2 (by omega)
    have hc : w2.cell? ⟨w1.heap.size, q, none⟩ = (#[.int .i64 (-2), .int .i64 990, .int .i64 991] : Array Value)[q]? := by
      rw [← hn q]
      exact World.cell?_of_block (hg2.block _ hbl (fun e => by injection e with e; have e' : w1.heap.size = g := e; have := HS1.out.2.lt; omega))
    clear hR2 hg2 hr2 HA hn
    have hq3 : q = 0 ∨ q = 1 ∨ q = 2 := by omega
    rcases hq3 with rfl | rfl | rfl
    · have hc' : w2.cell? ⟨w1.heap.size, 0, none⟩ = some (.int .i64 (-2)) := hc
      clear hc
      go_wp2_with fail
      go_ret
      exact ⟨_, HS2.out.more (by omega), rfl⟩
    · have hc' : w2.cell? ⟨w1.heap.size, 1, none⟩ = some (.int .i64 990) := hc
      clear hc
      go_wp2_with fail
      go_ret
      exact ⟨_, HS2.out.more (by omega), rfl⟩
    · have hc' : w2.cell? ⟨w1.heap.size, 2, none⟩ = some (.int .i64 991) := hc
      clear hc
      go_wp2_with fail
      go_ret
      exact ⟨_, HS2.out.more (by omega), rfl⟩
  · have hd : (r1 == 0) = false := by simp [h0]
    clear h0
    go_wp2_with fail
    refine (pick_any g (K + 1) 6 _ (by omega) HS1.out.2).mono ?_
    rintro e w2 ⟨r2, hr2, hR2, hg2, -, rfl⟩
    have HS2 := Lib.hid (HS1.out.step hg2 hR2)
    have hr21 := hr2.1
    have hr22 := hr2.2 (by omega)
    clear hR2 hg2 hr2 HS1
    go_wp2_with fail
    go_ret
    exact ⟨_, HS2.out.more (by omega), rfl⟩

abbrev IntS (w wr : World) (g k K : Nat) (v : Value) : Prop := RowS ci 3 1 w wr g k K v

end Go.Proofs.Ytgnhanbdfohjaaa
