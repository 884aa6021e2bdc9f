/-
  The walks of SnapshotFirst, of the program and of the reference: the place of a transaction. Condition: lengths are small, the votes are ints.
-/
import Derived.Test.YtgbkjfhmbchiiaaCoordC
namespace Go.Proofs.Ytgbkjfhmbchiiaa
set_option linter.unusedVariables false
set_option linter.unusedSimpArgs false
open Go.RowKit

set_option maxHeartbeats 1600000 in
set_option maxRecDepth 100000 in
theorem implFirst_any (txns : List TxnD) (order : List Int) (txn : Int) (A0 : Option Addr) (n0 c0 : Nat) (A1 : Option Addr) (n1 c1 : Nat) (w : World) (lo hi : Nat) (hh : hi ≤ w.heap.size) (hr0 : D.rd w lo hi (dTxns txns) (.slice A0 n0 c0)) (hr1 : D.rd w lo hi (intsD order) (.slice A1 n1 c1)) (hn0 : n0 ≤ 1048576) (hn1 : n1 ≤ 1048576)
    (hwf : ∀ t ∈ txns, ∀ v ∈ t.votes, (Lit.int .i64 v).wf = true) :
    Calls Try.prog 9 #[.agg #[.slice A0 n0 c0, .slice A1 n1 c1], .int .i64 txn] w fun e w' => e = .returned (.int .i64 (firstL ⟨txns, order⟩ txn)) ∧ Below w.heap.size w w' := by
  have HB0 : Hid (Below w.heap.size w (w.alloc (.cells #[.slice A0 n0 c0, .slice A1 n1 c1] 26))) := (Below.refl _ _).alloc (Nat.le_refl _) _
  have HT := Lib.hid (hr0.alloc hh (.cells #[.slice A0 n0 c0, .slice A1 n1 c1] 26))
  have HO := Lib.hid (hr1.alloc hh (.cells #[.slice A0 n0 c0, .slice A1 n1 c1] 26))
  have HL := Lib.hid hr1.ints.1
  have HWF := Lib.hid hwf
  have hx := idxI_lt txn order
  have HLL := Lib.hid (hr1.ints.1)
  rw [hr1.ints.1] at hx
  obtain ⟨x, hxe⟩ : ∃ x, idxI txn order = x := ⟨_, rfl⟩
  rw [hxe] at hx
  have HXE := Lib.hid hxe
  clear hr0 hr1 hwf hxe
  go_enter Try.func9, Try.ntmps9
  go_wp2_with fail
  refine (index_any A1 n1 c1 order txn _ lo hi (by omega) HO.out.ints).mono ?_
  rintro e w1 ⟨rfl, rfl⟩
  rw [HXE.out]
  go_wp2_with fail
  refine (implCoord_any txns order A0 n0 c0 A1 n1 c1 _ lo hi (by simp; omega) HT.out HO.out hn0 hn1 HWF.out).mono ?_
  rintro e w2 ⟨rfl, hb2⟩
  have HB2 := Lib.hid (bel_tr HB0.out (Nat.le_refl _) hb2)
  clear hb2
  rcases hv : coordB ⟨txns, order⟩ with _ | _
  · have hr := Lib.hid (firstL_bad (txn := txn) hv)
    clear hv
    go_wp2_with fail
    go_ret
    exact ⟨ret_int hr.out.symm, HB2.out⟩
  · by_cases h0 : x < 0
    · have hr := Lib.hid (firstL_none (c := ⟨txns, order⟩) (txn := txn) (by show idxI txn order < 0; rw [HXE.out]; exact h0))
      clear hv
      go_wp2_with fail
      go_ret
      exact ⟨ret_int hr.out.symm, HB2.out⟩
    · have h0' : 0 ≤ x := by omega
      have hr := Lib.hid (firstL_at (txn := txn) hv (by show 0 ≤ idxI txn order; rw [HXE.out]; exact h0'))
      clear hv h0
      go_wp2_with fail
      go_ret
      refine ⟨ret_int ?_, HB2.out⟩
      rw [hr.out]
      show _ = idxI txn order + 1
      rw [HXE.out]

set_option maxHeartbeats 1600000 in
set_option maxRecDepth 100000 in
theorem specFirst_any (txns : List TxnD) (order : List Int) (txn : Int) (A0 : Option Addr) (n0 c0 : Nat) (A1 : Option Addr) (n1 c1 : Nat) (w : World) (lo hi : Nat) (hh : hi ≤ w.heap.size) (hr0 : D.rd w lo hi (dTxns txns) (.slice A0 n0 c0)) (hr1 : D.rd w lo hi (intsD order) (.slice A1 n1 c1)) (hn1 : n1 ≤ 1048576) :
    Calls Try.prog 10 #[.agg #[.slice A0 n0 c0, .slice A1 n1 c1], .int .i64 txn] w fun e w' => e = .returned (.int .i64 (firstL ⟨txns, order⟩ txn)) ∧ Below w.heap.size w w' := by
  have HB0 : Hid (Below w.heap.size w (w.alloc (.cells #[.slice A0 n0 c0, .slice A1 n1 c1] 26))) := (Below.refl _ _).alloc (Nat.le_refl _) _
  have HX0 : Hid ((w.alloc (.cells #[.slice A0 n0 c0, .slice A1 n1 c1] 26)).heap[w.heap.size]? = some (.cells #[.slice A0 n0 c0, .slice A1 n1 c1] 26 (0, 0))) := Lib.hid (heap_alloc_new w _)
  have HT := Lib.hid hr0
  have HO := Lib.hid hr1
  have HL := Lib.hid hr1.ints.1
  clear hr0 hr1
  go_enter Try.func10, Try.ntmps10
  go_wp2_with fail
  go_loopw [5] (fun i wr => ∃ k : Nat, k ≤ n1 ∧ i = .int .i64 k ∧ Hid (txn ∉ order.take k) ∧ Hid (wr.heap[w.heap.size]? = some (.cells #[.slice A0 n0 c0, .slice A1 n1 c1] 26 (0, 0))) ∧ Below w.heap.size w wr) (fun i _ => n1 - (intOf i).toNat)
  case atStart => exact ⟨0, Nat.zero_le _, rfl, by show _ ∉ _; simp, HX0.out, HB0.out⟩
  case round =>
    obtain ⟨k, hk, rfl, HN, HX, hb⟩ := hrel
    have HB := Lib.hid hb
    have hwsz : w.heap.size < wr.heap.size := hlt_of HX.out
    have b0 := cell_of_row wr w.heap.size 0 _ _ _ HX.out
    have b1 := cell_of_row wr w.heap.size 1 _ _ _ HX.out
    clear hb HX0 HB0
    by_cases hlt : k < n1
    · have hlt2 : (k : Int) < (n1 : Int) := by omega
      go_wp2_with fail
      refine (specCoord_any txns order A0 n0 c0 A1 n1 c1 wr lo hi (by omega) (HT.out.below HB.out hh) (HO.out.below HB.out hh)).mono ?_
      rintro e w1 ⟨rfl, hb1⟩
      have HB1 := Lib.hid (bel_tr HB.out (Nat.le_refl _) hb1)
      have HX1 := Lib.hid ((hb1.block _ hwsz).trans HX.out)
      have e0 := cell_of_row w1 w.heap.size 0 _ _ _ HX1.out
      have e1 := cell_of_row w1 w.heap.size 1 _ _ _ HX1.out
      clear hb1
      rcases hv : coordB ⟨txns, order⟩ with _ | _
      · have hr := Lib.hid (firstL_bad (txn := txn) hv)
        clear hv
        go_wp2_with fail
        go_ret
        exact ⟨ret_int hr.out.symm, HB1.out⟩
      · obtain ⟨b, o, hl, rfl, _, hbh, hc⟩ := (HO.out.ints.below HB1.out hh).int hlt
        by_cases he : order[k] = txn
        · have HI := Lib.hid (idxI_at hl HN.out he)
          have hr := Lib.hid (firstL_at (txn := txn) hv (by show 0 ≤ idxI txn order; rw [HI.out]; omega))
          rw [he] at hc
          clear hv he
          go_wp2_with fail
          go_ret
          refine ⟨ret_int ?_, HB1.out⟩
          rw [hr.out]
          show _ = idxI txn order + 1
          rw [HI.out]
        · have hd : (order[k] == txn) = false := by simpa using he
          have HN2 := Lib.hid (take_mem_succ hl HN.out he)
          clear hv he
          go_wp2_with fail
          go_roundw
          case rel => exact ⟨k + 1, by omega, by go_num, HN2.out, HX1.out, HB1.out⟩
          case measure => simp [intOf]; omega
    · have hkn : k = n1 := by omega
      subst hkn
      have HI := Lib.hid (idxI_none HL.out HN.out)
      have hr := Lib.hid (firstL_none (c := ⟨txns, order⟩) (txn := txn) (by show idxI txn order < 0; rw [HI.out]; decide))
      go_wp2_with fail
      go_ret
      exact ⟨ret_int hr.out.symm, HB.out⟩

end Go.Proofs.Ytgbkjfhmbchiiaa
