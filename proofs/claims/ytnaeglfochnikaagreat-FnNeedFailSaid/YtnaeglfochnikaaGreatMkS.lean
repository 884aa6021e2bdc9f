/-
  The walks of both sides' DeltaSize, of slices.ContainsFunc over objects, and of the depth of the nodes of a pack that is being made. Condition: lengths are small.
-/
import Derived.Test.YtnaeglfochnikaaGreatZ2
import Derived.Test.YtnaeglfochnikaaGreatPackK9
import Derived.Test.YtnaeglfochnikaaGreatMakeI9
import Derived.Test.YtnaeglfochnikaaGreatMakeS
namespace Go.Proofs.YtnaeglfochnikaaGreat
set_option linter.unusedVariables false
set_option linter.unusedSimpArgs false
open Go.RowKit

set_option maxHeartbeats 800000 in
set_option maxRecDepth 100000 in
theorem specSize_ex (A : Option Addr) (n c : Nat) (xs : List OpD) (w : World) (lo hi : Nat) (hn : n ≤ 1000) (h : Fl co w lo hi A n xs) (ht : ∀ o ∈ xs, o.text.size ≤ 1000) :
    Calls Tryz.prog 80 #[.slice A n c] w fun e w' => e = .returned (.int .i64 ((szO xs : Nat) : Int)) ∧ w = w' := by
  have HI := Lib.hid h
  have HT := Lib.hid ht
  clear h ht
  go_enter Tryz.func80, Tryz.ntmps80
  go_wp2_with fail
  go_loop [3, 4] (fun t i => ∃ k q : Nat, k ≤ n ∧ i = .int .i64 k ∧ t = .int .i64 (q : Int) ∧ q ≤ 1001 * k ∧ Hid (q = k + txO (xs.take k))) (fun _ i => n - (intOf i).toNat)
  case atStart => exact ⟨0, 0, Nat.zero_le _, rfl, rfl, by omega, Lib.hid (by simp [txO])⟩
  case round =>
    obtain ⟨k, q, hk, rfl, rfl, hq, HQ⟩ := hrel
    by_cases hlt : k < n
    · obtain ⟨b, o, hl, rfl, _, hbh, hc1, hc2, hc3⟩ := fl_op HI.out hlt
      have htx := HT.out xs[k] (List.getElem_mem hl)
      have HS : Hid (q + 1 + xs[k].text.size = k + 1 + txO (xs.take (k + 1))) := Lib.hid (by rw [txO_take hl, HQ.out]; omega)
      go_wp2_with fail
      go_round
      case rel => exact ⟨k + 1, q + 1 + xs[k].text.size, by omega, by go_num, by go_num, by omega, HS⟩
      case measure => simp [intOf]; omega
    · have hkn : k = n := by omega
      subst hkn
      have HS : Hid (q = szO xs) := Lib.hid (by rw [HQ.out]; unfold szO; rw [List.take_of_length_le (by rw [HI.out.1]; exact Nat.le_refl _), HI.out.1])
      go_wp2_with fail
      go_ret
      exact ⟨ret_int (by rw [HS.out]), rfl⟩

set_option maxHeartbeats 800000 in
set_option maxRecDepth 100000 in
theorem implSize_ex (A : Option Addr) (n c : Nat) (xs : List OpD) (w : World) (lo hi : Nat) (hh : hi ≤ w.heap.size) (hn : n ≤ 1000) (h : Fl co w lo hi A n xs) (ht : ∀ o ∈ xs, o.text.size ≤ 1000) :
    Calls Tryz.prog 67 #[.slice A n c] w fun e w' => e = .returned (.int .i64 ((szO xs : Nat) : Int)) ∧ Below w.heap.size w w' := by
  have HI := Lib.hid h
  have HT := Lib.hid ht
  clear h ht
  go_enter Tryz.func67, Tryz.ntmps67
  go_wp2_with fail
  go_loopw [3, 10] (fun t i wr => ∃ k q : Nat, k ≤ n ∧ i = .int .i64 k ∧ t = .int .i64 (q : Int) ∧ q ≤ 1000 + 1000 * k ∧ Hid (q = n + txO (xs.take k)) ∧ Below w.heap.size w wr) (fun _ i _ => n - (intOf i).toNat)
  case atStart => exact ⟨0, n, Nat.zero_le _, rfl, rfl, by omega, Lib.hid (by simp [txO]), Below.refl _ _⟩
  case round =>
    obtain ⟨k, q, hk, rfl, rfl, hq, HQ, hb⟩ := hrel
    have HB := Lib.hid hb
    have hws := hb.size
    clear hb
    by_cases hlt : k < n
    · obtain ⟨b, o, hl, rfl, _, hbh, hc1, hc2, hc3⟩ := fl_op (HI.out.below HB.out hh) hlt
      have htx := HT.out xs[k] (List.getElem_mem hl)
      have HS : Hid (q + xs[k].text.size = n + txO (xs.take (k + 1))) := Lib.hid (by rw [txO_take hl, HQ.out]; omega)
      have hbl : b < wr.heap.size := by omega
      go_wp2_with fail
      go_roundw
      case rel => exact ⟨k + 1, q + xs[k].text.size, by omega, by go_num, by go_num, by omega, HS, (HB.out.alloc hws _)⟩
      case measure => simp [intOf]; omega
    · have hkn : k = n := by omega
      subst hkn
      have HS : Hid (q = szO xs) := Lib.hid (by rw [HQ.out]; unfold szO; rw [List.take_of_length_le (by rw [HI.out.1]; exact Nat.le_refl _), HI.out.1])
      go_wp2_with fail
      go_ret
      exact ⟨ret_int (by rw [HS.out]), HB.out⟩

end Go.Proofs.YtnaeglfochnikaaGreat
