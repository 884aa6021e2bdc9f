/-
  The walk of the reference's CoordinatorValid: whether a coordinator is valid. Condition: lengths fit an int64.
-/
import Derived.Test.YtgbkjfhmbchiiaaCoordV
namespace Go.Proofs.Ytgbkjfhmbchiiaa
set_option linter.unusedVariables false
set_option linter.unusedSimpArgs false
open Go.RowKit

theorem ok_at {c : CoordD} {k : Nat} (hl : k < c.txns.length) (h1 : txnB c.txns[k] = true) (h2 : comAt c.txns k = hasB (k : Int) c.order) : okAt c k = true := by
  unfold okAt hasAt
  rw [List.getD_eq_getElem?_getD, List.getElem?_eq_getElem hl]
  show (txnB c.txns[k] && _) = true
  rw [h1, h2]; simp
theorem coordB_no2 {c : CoordD} {k : Nat} (hl : k < c.txns.length) (h2 : ¬ comAt c.txns k = hasB (k : Int) c.order) : coordB c = false := coordB_no hl (by
  unfold okAt hasAt
  have : (comAt c.txns k == hasB (k : Int) c.order) = false := by simpa using h2
  rw [this]; simp)
theorem coordB_end {c : CoordD} {n : Nat} (hn : n = c.txns.length) (h : allTo (okAt c) n = true) : coordB c = (decide (n ≤ 12) && decide (c.order.length = (commTo c.txns n).length)) := by
  subst hn
  rw [coordB_iff, h, comms_to]; simp
theorem commTo_yes {ts : List TxnD} {k : Nat} (h : comAt ts k = true) : (commTo ts (k + 1)).length = (commTo ts k).length + 1 := by rw [commTo_succ, if_pos h]; simp
theorem commTo_no {ts : List TxnD} {k : Nat} (h : comAt ts k = false) : (commTo ts (k + 1)).length = (commTo ts k).length := by rw [commTo_succ, h]; simp

set_option maxHeartbeats 3200000 in
set_option maxRecDepth 100000 in
theorem specCoord_any (txns : List TxnD) (order : List Int) (A0 : Option Addr) (n0 c0 : Nat) (A1 : Option Addr) (n1 c1 : Nat) (w : World) (lo hi : Nat) (hh : hi ≤ w.heap.size) (hr0 : D.rd w lo hi (dTxns txns) (.slice A0 n0 c0)) (hr1 : D.rd w lo hi (intsD order) (.slice A1 n1 c1)) :
    Calls Try.prog 11 #[.agg #[.slice A0 n0 c0, .slice A1 n1 c1]] w fun e w' => e = .returned (.bool (coordB ⟨txns, order⟩)) ∧ Below w.heap.size w w' := by
  have HB0 : Hid (Below w.heap.size w (w.alloc (.cells #[.slice A0 n0 c0, .slice A1 n1 c1] 26))) := (Below.refl _ _).alloc (Nat.le_refl _) _
  have HX0 : Hid ((w.alloc (.cells #[.slice A0 n0 c0, .slice A1 n1 c1] 26)).heap[w.heap.size]? = some (.cells #[.slice A0 n0 c0, .slice A1 n1 c1] 26 (0, 0))) := Lib.hid (heap_alloc_new w _)
  have HI := Lib.hid hr0
  have HO := Lib.hid hr1.ints
  have HN0 := Lib.hid hr0.len.1
  have hn63 : n0 ≤ 9223372036854775807 := by have := hr0.len; omega
  have hm63 : n1 ≤ 9223372036854775807 := by have := hr1.len; omega
  have HN1 := Lib.hid hr1.ints.1
  clear hr0 hr1
  go_enter Try.func11, Try.ntmps11
  go_wp2_with fail
  go_loopw [3, 4] (fun y i wr => ∃ k a : Nat, k ≤ n0 ∧ a ≤ k ∧ i = .int .i64 k ∧ y = .int .i64 a ∧ Hid (a = (commTo txns k).length) ∧ Hid (allTo (okAt ⟨txns, order⟩) k = true) ∧ Hid (wr.heap[w.heap.size]? = some (.cells #[.slice A0 n0 c0, .slice A1 n1 c1] 26 (0, 0))) ∧ Below w.heap.size w wr) (fun _ i _ => n0 - (intOf i).toNat)
  case atStart => exact ⟨0, 0, Nat.zero_le _, Nat.zero_le _, rfl, rfl, rfl, rfl, HX0.out, HB0.out⟩
  case round =>
    obtain ⟨k, a, hk, ha, rfl, rfl, HA, HT, HX, hb⟩ := hrel
    have HB := Lib.hid hb
    have hwsz : w.heap.size < wr.heap.size := hlt_of HX.out
    have b0 := cell_of_row wr w.heap.size 0 _ _ _ HX.out
    have b1 := cell_of_row wr w.heap.size 1 _ _ _ HX.out
    clear hb HX0 HB0
    by_cases hlt : k < n0
    · obtain ⟨b, o, hl, A2, n2, c2, A3, n3, c3, rfl, _, hbh, hc0, hc1, hc2, ⟨hn2, hm2, hr2⟩, ⟨hn3, hm3, hr3⟩⟩ := rd_Txn (HI.out.below HB.out hh) hlt
      have HR2 := Lib.hid hr2
      have HR3 := Lib.hid hr3
      have hhr : hi ≤ wr.heap.size := by omega
      have hbw : b < wr.heap.size := by omega
      clear hr2 hr3
      rcases hv : txnB txns[k] with _ | _
      · have hno := Lib.hid (coordB_no1 (c := ⟨txns, order⟩) hl hv)
        have hv' : txnB ⟨txns[k].parts, txns[k].votes, txns[k].dec⟩ = false := hv
        go_wp2_with fail
        refine (l22Txn_any txns[k].parts txns[k].votes txns[k].dec A2 n2 c2 A3 n3 c3 _ lo hi hhr HR2.out HR3.out).mono ?_
        rintro e w1 ⟨rfl, hb1⟩
        have HB1 := Lib.hid (bel_tr HB.out (Nat.le_refl _) hb1)
        clear hb1
        rw [hv']
        go_wp2_with fail
        go_ret
        exact ⟨ret_bool hno.out.symm, HB1.out⟩
      · have hv' : txnB ⟨txns[k].parts, txns[k].votes, txns[k].dec⟩ = true := hv
        have HY := Lib.hid (fun g => ok_at (c := ⟨txns, order⟩) hl hv g)
        have HN := Lib.hid (fun g => coordB_no2 (c := ⟨txns, order⟩) hl g)
        have HC := Lib.hid (comAt_get hl)
        clear hv
        go_wp2_with fail
        refine (l22Txn_any txns[k].parts txns[k].votes txns[k].dec A2 n2 c2 A3 n3 c3 _ lo hi hhr HR2.out HR3.out).mono ?_
        rintro e w1 ⟨rfl, hb1⟩
        have HB1 := Lib.hid (bel_tr HB.out (Nat.le_refl _) hb1)
        have HX1 := Lib.hid ((hb1.block _ hwsz).trans HX.out)
        have hz1 : w.heap.size < w1.heap.size := hlt_of HX1.out
        have hh1 : hi ≤ w1.heap.size := Nat.le_trans hhr hb1.size
        have d0 := cell_of_row w1 w.heap.size 0 _ _ _ HX1.out
        have d1 := cell_of_row w1 w.heap.size 1 _ _ _ HX1.out
        have d2 : w1.cell? ⟨b, o + k * 3 + 2, none⟩ = some (.int .i64 txns[k].dec) := (hb1.cell hbw).trans hc2
        have HO1 : Hid (Ints w1 lo hi A1 n1 order) := HO.out.below HB1.out hh
        have hq0 : ∀ p : BelBy w1, p.w.cell? ⟨w.heap.size, 0, none⟩ = some (.slice (some ⟨b, o, none⟩) n0 c0) := fun p => p.cell d0
        have hq1 : ∀ p : BelBy w1, p.w.cell? ⟨w.heap.size, 1, none⟩ = some (.slice A1 n1 c1) := fun p => p.cell d1
        have hq2 : ∀ p : BelBy w1, p.w.cell? ⟨b, o + k * 3 + 2, none⟩ = some (.int .i64 txns[k].dec) := fun p => p.cell d2
        have hkn1 : (k : Int) < (n0 : Int) := by omega
        clear hb1
        rw [hv']
        obtain ⟨hs, hhs⟩ : ∃ q, hasB (k : Int) order = q := ⟨_, rfl⟩
        by_cases hd : txns[k].dec = 2
        · have hd2 : (txns[k].dec == 2) = true := by simpa using hd
          have HC2 : Hid (comAt txns k = true) := HC.out.trans (decide_eq_true hd)
          have HCN := Lib.hid (commTo_yes HC2.out)
          clear hd
          rcases hs with _ | _
          · have hno := Lib.hid (HN.out (by show ¬ comAt txns k = hasB (k : Int) order; rw [HC2.out, hhs]; decide))
            go_wp2_with fail
            refine quiet_bel (by kernel_rfl) (by kernel_rfl) ?_
            repeat (go_big_quiet_step ((go_at_call 30; exact bel_same (l1Has_any A1 n1 c1 order _ _ lo hi (by omega) (HO1.out.below (BelBy.h _) hh1)))))
            refine wpQuiet_nil ?_
            intro _ hw'
            obtain ⟨⟨wz, hbz⟩, rfl⟩ := hw'
            have HBZ := Lib.hid (bel_tr HB1.out (Nat.le_refl _) hbz)
            clear hbz hq0 hq1 hq2
            rw [hhs]
            go_wp2_with fail
            go_ret
            exact ⟨ret_bool hno.out.symm, HBZ.out⟩
          · have hyes := Lib.hid (HY.out (by show comAt txns k = hasB (k : Int) order; rw [HC2.out, hhs]))
            go_wp2_with fail
            refine quiet_bel (by kernel_rfl) (by kernel_rfl) ?_
            repeat (go_big_quiet_step ((go_at_call 30; exact bel_same (l1Has_any A1 n1 c1 order _ _ lo hi (by omega) (HO1.out.below (BelBy.h _) hh1)))))
            refine wpQuiet_nil ?_
            intro _ hw'
            obtain ⟨⟨wz, hbz⟩, rfl⟩ := hw'
            have HBZ := Lib.hid (bel_tr HB1.out (Nat.le_refl _) hbz)
            have HXZ := Lib.hid ((hbz.block _ hz1).trans HX1.out)
            clear hbz hq0 hq1 hq2
            rw [hhs]
            go_wp2_with fail
            exact ⟨⟨k + 1, a + 1, by omega, by omega, by go_num, by go_num, by show _ = _; rw [HCN.out, HA.out], allTo_succ HT.out hyes.out, HXZ, HBZ.out⟩, by simp [intOf]; omega⟩
        · have hd2 : (txns[k].dec == 2) = false := by simpa using hd
          have HC2 : Hid (comAt txns k = false) := HC.out.trans (decide_eq_false hd)
          have HCN := Lib.hid (commTo_no HC2.out)
          clear hd
          rcases hs with _ | _
          · have hyes := Lib.hid (HY.out (by show comAt txns k = hasB (k : Int) order; rw [HC2.out, hhs]))
            go_wp2_with fail
            refine quiet_bel (by kernel_rfl) (by kernel_rfl) ?_
            repeat (go_big_quiet_step ((go_at_call 30; exact bel_same (l1Has_any A1 n1 c1 order _ _ lo hi (by omega) (HO1.out.below (BelBy.h _) hh1)))))
            refine wpQuiet_nil ?_
            intro _ hw'
            obtain ⟨⟨wz, hbz⟩, rfl⟩ := hw'
            have HBZ := Lib.hid (bel_tr HB1.out (Nat.le_refl _) hbz)
            have HXZ := Lib.hid ((hbz.block _ hz1).trans HX1.out)
            clear hbz hq0 hq1 hq2
            rw [hhs]
            go_wp2_with fail
            exact ⟨⟨k + 1, a, by omega, by omega, by go_num, rfl, by show _ = _; rw [HCN.out, HA.out], allTo_succ HT.out hyes.out, HXZ, HBZ.out⟩, by simp [intOf]; omega⟩
          · have hno := Lib.hid (HN.out (by show ¬ comAt txns k = hasB (k : Int) order; rw [HC2.out, hhs]; decide))
            go_wp2_with fail
            refine quiet_bel (by kernel_rfl) (by kernel_rfl) ?_
            repeat (go_big_quiet_step ((go_at_call 30; exact bel_same (l1Has_any A1 n1 c1 order _ _ lo hi (by omega) (HO1.out.below (BelBy.h _) hh1)))))
            refine wpQuiet_nil ?_
            intro _ hw'
            obtain ⟨⟨wz, hbz⟩, rfl⟩ := hw'
            have HBZ := Lib.hid (bel_tr HB1.out (Nat.le_refl _) hbz)
            clear hbz hq0 hq1 hq2
            rw [hhs]
            go_wp2_with fail
            go_ret
            exact ⟨ret_bool hno.out.symm, HBZ.out⟩
    · have hkn : k = n0 := by omega
      subst hkn
      have HE := Lib.hid (coordB_end (c := ⟨txns, order⟩) HN0.out HT.out)
      go_wp2_with fail
      · go_ret
        refine ⟨ret_bool ?_, HB.out⟩
        rw [HE.out, decide_eq_true (by omega : k ≤ 12)]
        show _ = (true && decide (order.length = (commTo txns k).length))
        rw [← HA.out, HN1.out, Bool.true_and, Bool.eq_iff_iff]; simp; omega
      · go_ret
        refine ⟨ret_bool ?_, HB.out⟩
        rw [HE.out, decide_eq_false (by omega : ¬ k ≤ 12)]; rfl

end Go.Proofs.Ytgbkjfhmbchiiaa
