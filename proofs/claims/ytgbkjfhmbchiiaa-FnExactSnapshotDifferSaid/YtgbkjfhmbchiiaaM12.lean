/-
  The walk of the reference's CoordinatorValid: whether a coordinator is valid. Condition: lengths fit an int64.
  The walk of slices.Clone at a slice of ints, as data of its own. Condition: few elements.
  The walks of slices.Equal and slices.Sort at slices of ints: the second over a row of the call's own. Condition: few elements.
  The walk of the program's CoordinatorValid: whether a coordinator is valid. Condition: lengths are small, the votes are ints.
-/
import Derived.Test.YtgbkjfhmbchiiaaM11
import Derived.Test.YtgbkjfhmbchiiaaM3
import Derived.StillTailTactics
import Derived.Test.YtgbkjfhmbchiiaaShelf
import Derived.Sort.OwnSortedInts
import Derived.Deep.DeepCutAuto
import Derived.Test.YtgbkjfhmbchiiaaM10
namespace Go.Proofs.Ytgbkjfhmbchiiaa
set_option linter.unusedVariables false
set_option linter.unusedSimpArgs false
open Go.RowKit

theorem ok_at {c : CoordD} {k : Nat} (hl : k < c.txns.length) (h1 : txnB c.txns[k] = true) (h2 : comAt c.txns k = hasB (k : Int) c.order) : okAt c k = true := by
  unfold okAt hasAt
  rw [List.getD_eq_getElem?_getD, List.getElem?_eq_getElem hl]
  show (txnB c.txns[k] && _) = true
  rw [h1, h2]; simp
theorem coordB_no2 {c : CoordD} {k : Nat} (hl : k < c.txns.length) (h2 : ¬ comAt c.txns k = hasB (k : Int) c.order) : coordB c = false := coordB_no hl (by
  unfold okAt hasAt
  have : (comAt c.txns k == hasB (k : Int) c.order) = false := by simpa using h2
  rw [this]; simp)
theorem coordB_end {c : CoordD} {n : Nat} (hn : n = c.txns.length) (h : allTo (okAt c) n = true) : coordB c = (decide (n ≤ 12) && decide (c.order.length = (commTo c.txns n).length)) := by
  subst hn
  rw [coordB_iff, h, comms_to]; simp
theorem commTo_yes {ts : List TxnD} {k : Nat} (h : comAt ts k = true) : (commTo ts (k + 1)).length = (commTo ts k).length + 1 := by rw [commTo_succ, if_pos h]; simp
theorem commTo_no {ts : List TxnD} {k : Nat} (h : comAt ts k = false) : (commTo ts (k + 1)).length = (commTo ts k).length := by rw [commTo_succ, h]; simp

set_option maxHeartbeats 3200000 in
set_option maxRecDepth 100000 in
theorem specCoord_any (txns : List TxnD) (order : List Int) (A0 : Option Addr) (n0 c0 : Nat) (A1 : Option Addr) (n1 c1 : Nat) (w : World) (lo hi : Nat) (hh : hi ≤ w.heap.size) (hr0 : D.rd w lo hi (dTxns txns) (.slice A0 n0 c0)) (hr1 : D.rd w lo hi (intsD order) (.slice A1 n1 c1)) :
    Calls Try.prog 11 #[.agg #[.slice A0 n0 c0, .slice A1 n1 c1]] w fun e w' => e = .returned (.bool (coordB ⟨txns, order⟩)) ∧ Below w.heap.size w w' := by
  have HB0 : Hid (Below w.heap.size w (w.alloc (.cells #[.slice A0 n0 c0, .slice A1 n1 c1] 26))) := (Below.refl _ _).alloc (Nat.le_refl _) _
  have HX0 : Hid ((w.alloc (.cells #[.slice A0 n0 c0, .slice A1 n1 c1] 26)).heap[w.heap.size]? = some (.cells #[.slice A0 n0 c0, .slice A1 n1 c1] 26 (0, 0))) := Lib.hid (heap_alloc_new w _)
  have HI := Lib.hid hr0
  have HO := Lib.hid hr1.ints
  have HN0 := Lib.hid hr0.len.1
  have hn63 : n0 ≤ 9223372036854775807 := by have := hr0.len; omega
  have hm63 : n1 ≤ 9223372036854775807 := by have := hr1.len; omega
  have HN1 := Lib.hid hr1.ints.1
  clear hr0 hr1
  go_enter Try.func11, Try.ntmps11
  go_wp2_with fail
  go_loopw [3, 4] (fun y i wr => ∃ k a : Nat, k ≤ n0 ∧ a ≤ k ∧ i = .int .i64 k ∧ y = .int .i64 a ∧ Hid (a = (commTo txns k).length) ∧ Hid (allTo (okAt ⟨txns, order⟩) k = true) ∧ Hid (wr.heap[w.heap.size]? = some (.cells #[.slice A0 n0 c0, .slice A1 n1 c1] 26 (0, 0))) ∧ Below w.heap.size w wr) (fun _ i _ => n0 - (intOf i).toNat)
  case atStart => exact ⟨0, 0, Nat.zero_le _, Nat.zero_le _, rfl, rfl, rfl, rfl, HX0.out, HB0.out⟩
  case round =>
    obtain ⟨k, a, hk, ha, rfl, rfl, HA, HT, HX, hb⟩ := hrel
    have HB := Lib.hid hb
    have hwsz : w.heap.size < wr.heap.size := hlt_of HX.out
    have b0 := cell_of_row wr w.heap.size 0 _ _ _ HX.out
    have b1 := cell_of_row wr w.heap.size 1 _ _ _ HX.out
    clear hb HX0 HB0
    by_cases hlt : k < n0
    · obtain ⟨b, o, hl, A2, n2, c2, A3, n3, c3, rfl, _, hbh, hc0, hc1, hc2, ⟨hn2, hm2, hr2⟩, ⟨hn3, hm3, hr3⟩⟩ := rd_Txn (HI.out.below HB.out hh) hlt
      have HR2 := Lib.hid hr2
      have HR3 := Lib.hid hr3
      have hhr : hi ≤ wr.heap.size := by omega
      have hbw : b < wr.heap.size := by omega
      clear hr2 hr3
      rcases hv : txnB txns[k] with _ | _
      · have hno := Lib.hid (coordB_no1 (c := ⟨txns, order⟩) hl hv)
        have hv' : txnB ⟨txns[k].parts, txns[k].votes, txns[k].dec⟩ = false := hv
        go_wp2_with fail
        refine (l22Txn_any txns[k].parts txns[k].votes txns[k].dec A2 n2 c2 A3 n3 c3 _ lo hi hhr HR2.out HR3.out).mono ?_
        rintro e w1 ⟨rfl, hb1⟩
        have HB1 := Lib.hid (bel_tr HB.out (Nat.le_refl _) hb1)
        clear hb1
        rw [hv']
        go_wp2_with fail
        go_ret
        exact ⟨ret_bool hno.out.symm, HB1.out⟩
      · have hv' : txnB ⟨txns[k].parts, txns[k].votes, txns[k].dec⟩ = true := hv
        have HY := Lib.hid (fun g => ok_at (c := ⟨txns, order⟩) hl hv g)
        have HN := Lib.hid (fun g => coordB_no2 (c := ⟨txns, order⟩) hl g)
        have HC := Lib.hid (comAt_get hl)
        clear hv
        go_wp2_with fail
        refine (l22Txn_any txns[k].parts txns[k].votes txns[k].dec A2 n2 c2 A3 n3 c3 _ lo hi hhr HR2.out HR3.out).mono ?_
        rintro e w1 ⟨rfl, hb1⟩
        have HB1 := Lib.hid (bel_tr HB.out (Nat.le_refl _) hb1)
        have HX1 := Lib.hid ((hb1.block _ hwsz).trans HX.out)
        have hz1 : w.heap.size < w1.heap.size := hlt_of HX1.out
        have hh1 : hi ≤ w1.heap.size := Nat.le_trans hhr hb1.size
        have d0 := cell_of_row w1 w.heap.size 0 _ _ _ HX1.out
        have d1 := cell_of_row w1 w.heap.size 1 _ _ _ HX1.out
        have d2 : w1.cell? ⟨b, o + k * 3 + 2, none⟩ = some (.int .i64 txns[k].dec) := (hb1.cell hbw).trans hc2
        have HO1 : Hid (Ints w1 lo hi A1 n1 order) := HO.out.below HB1.out hh
        have hq0 : ∀ p : BelBy w1, p.w.cell? ⟨w.heap.size, 0, none⟩ = some (.slice (some ⟨b, o, none⟩) n0 c0) := fun p => p.cell d0
        have hq1 : ∀ p : BelBy w1, p.w.cell? ⟨w.heap.size, 1, none⟩ = some (.slice A1 n1 c1) := fun p => p.cell d1
        have hq2 : ∀ p : BelBy w1, p.w.cell? ⟨b, o + k * 3 + 2, none⟩ = some (.int .i64 txns[k].dec) := fun p => p.cell d2
        have hkn1 : (k : Int) < (n0 : Int) := by omega
        clear hb1
        rw [hv']
        obtain ⟨hs, hhs⟩ : ∃ q, hasB (k : Int) order = q := ⟨_, rfl⟩
        by_cases hd : txns[k].dec = 2
        · have hd2 : (txns[k].dec == 2) = true := by simpa using hd
          have HC2 : Hid (comAt txns k = true) := HC.out.trans (decide_eq_true hd)
          have HCN := Lib.hid (commTo_yes HC2.out)
          clear hd
          rcases hs with _ | _
          · have hno := Lib.hid (HN.out (by show ¬ comAt txns k = hasB (k : Int) order; rw [HC2.out, hhs]; decide))
            go_wp2_with fail
            refine quiet_bel (by kernel_rfl) (by kernel_rfl) ?_
            repeat (go_big_quiet_step ((go_at_call 30; exact bel_same (l1Has_any A1 n1 c1 order _ _ lo hi (by omega) (HO1.out.below (BelBy.h _) hh1)))))
            refine wpQuiet_nil ?_
            intro _ hw'
            obtain ⟨⟨wz, hbz⟩, rfl⟩ := hw'
            have HBZ := Lib.hid (bel_tr HB1.out (Nat.le_refl _) hbz)
            clear hbz hq0 hq1 hq2
            rw [hhs]
            go_wp2_with fail
            go_ret
            exact ⟨ret_bool hno.out.symm, HBZ.out⟩
          · have hyes := Lib.hid (HY.out (by show comAt txns k = hasB (k : Int) order; rw [HC2.out, hhs]))
            go_wp2_with fail
            refine quiet_bel (by kernel_rfl) (by kernel_rfl) ?_
            repeat (go_big_quiet_step ((go_at_call 30; exact bel_same (l1Has_any A1 n1 c1 order _ _ lo hi (by omega) (HO1.out.below (BelBy.h _) hh1)))))
            refine wpQuiet_nil ?_
            intro _ hw'
            obtain ⟨⟨wz, hbz⟩, rfl⟩ := hw'
            have HBZ := Lib.hid (bel_tr HB1.out (Nat.le_refl _) hbz)
            have HXZ := Lib.hid ((hbz.block _ hz1).trans HX1.out)
            clear hbz hq0 hq1 hq2
            rw [hhs]
            go_wp2_with fail
            exact ⟨⟨k + 1, a + 1, by omega, by omega, by go_num, by go_num, by show _ = _; rw [HCN.out, HA.out], allTo_succ HT.out hyes.out, HXZ, HBZ.out⟩, by simp [intOf]; omega⟩
        · have hd2 : (txns[k].dec == 2) = false := by simpa using hd
          have HC2 : Hid (comAt txns k = false) := HC.out.trans (decide_eq_false hd)
          have HCN := Lib.hid (commTo_no HC2.out)
          clear hd
          rcases hs with _ | _
          · have hyes := Lib.hid (HY.out (by show comAt txns k = hasB (k : Int) order; rw [HC2.out, hhs]))
            go_wp2_with fail
            refine quiet_bel (by kernel_rfl) (by kernel_rfl) ?_
            repeat (go_big_quiet_step ((go_at_call 30; exact bel_same (l1Has_any A1 n1 c1 order _ _ lo hi (by omega) (HO1.out.below (BelBy.h _) hh1)))))
            refine wpQuiet_nil ?_
            intro _ hw'
            obtain ⟨⟨wz, hbz⟩, rfl⟩ := hw'
            have HBZ := Lib.hid (bel_tr HB1.out (Nat.le_refl _) hbz)
            have HXZ := Lib.hid ((hbz.block _ hz1).trans HX1.out)
            clear hbz hq0 hq1 hq2
            rw [hhs]
            go_wp2_with fail
            exact ⟨⟨k + 1, a, by omega, by omega, by go_num, rfl, by show _ = _; rw [HCN.out, HA.out], allTo_succ HT.out hyes.out, HXZ, HBZ.out⟩, by simp [intOf]; omega⟩
          · have hno := Lib.hid (HN.out (by show ¬ comAt txns k = hasB (k : Int) order; rw [HC2.out, hhs]; decide))
            go_wp2_with fail
            refine quiet_bel (by kernel_rfl) (by kernel_rfl) ?_
            repeat (go_big_quiet_step ((go_at_call 30; exact bel_same (l1Has_any A1 n1 c1 order _ _ lo hi (by omega) (HO1.out.below (BelBy.h _) hh1)))))
            refine wpQuiet_nil ?_
            intro _ hw'
            obtain ⟨⟨wz, hbz⟩, rfl⟩ := hw'
            have HBZ := Lib.hid (bel_tr HB1.out (Nat.le_refl _) hbz)
            clear hbz hq0 hq1 hq2
            rw [hhs]
            go_wp2_with fail
            go_ret
            exact ⟨ret_bool hno.out.symm, HBZ.out⟩
    · have hkn : k = n0 := by omega
      subst hkn
      have HE := Lib.hid (coordB_end (c := ⟨txns, order⟩) HN0.out HT.out)
      go_wp2_with fail
      · go_ret
        refine ⟨ret_bool ?_, HB.out⟩
        rw [HE.out, decide_eq_true (by omega : k ≤ 12)]
        show _ = (true && decide (order.length = (commTo txns k).length))
        rw [← HA.out, HN1.out, Bool.true_and, Bool.eq_iff_iff]; simp; omega
      · go_ret
        refine ⟨ret_bool ?_, HB.out⟩
        rw [HE.out, decide_eq_false (by omega : ¬ k ≤ 12)]; rfl

end Go.Proofs.Ytgbkjfhmbchiiaa

namespace Go.Proofs.Ytgbkjfhmbchiiaa
set_option linter.unusedVariables false
set_option linter.unusedSimpArgs false
open Go.RowKit

theorem Try.elI : ElemT Try.prog 24 3 (.int .i64 0) 1 8 := ⟨Try.underlying24, by kernel_rfl, rfl, by decide⟩

set_option maxRecDepth 100000 in
set_option maxHeartbeats 800000 in
theorem cloneInt_row (xs : List Int) (A : Option Addr) (n c : Nat) (w : World) (lo hi : Nat) (hh : hi ≤ w.heap.size) (hn : n ≤ 1048576) (h : Ints w lo hi A n xs) :
    Calls Try.prog 47 #[.slice A n c] w fun e w' => ∃ (B : Option Addr) (d : Nat), w'.ownsRow w.heap.size 3 1 (.slice B n d) n (xs.flatMap ci) ∧ Below w.heap.size w w' ∧ e = .returned (.slice B n d) := by
  have HX := Lib.hid h
  have hxl := Lib.hid h.1
  have qT : ∀ (w : World) (a : Option Addr) (n c n' c' : Nat), (binOp .eql 24 (.slice a n c) (.slice none n' c')).run Try.prog w = .ok (.bool a.isNone) w := fun w a n c n' c' => Lib.run_eql_slice_nil w _ _ a n c n' c' Try.underlying24
  clear h
  rcases A with _ | ad
  · have hx0 : xs = [] := by
      rcases hxs : xs with _ | ⟨x, l⟩
      · rfl
      · obtain ⟨b, o, e, _⟩ := HX.out.2 (by rw [hxs]; simp [ci])
        cases e
    have hn0 : n = 0 := by rw [← hxl.out, hx0]; rfl
    subst hx0 hn0
    go_enter Try.func47, Try.ntmps47
    go_wp2_with fail
    go_ret
    exact ⟨_, _, World.ownsRow_nil _ _ _ _, Below.refl _ _, rfl⟩
  · have hown0 := Lib.hid (own_nil_lit w 3 1)
    go_enter Try.func47, Try.ntmps47
    go_wp2_with (at_builtin; go_must (refine wpList_app Try.elI hown0.out (HX.out.2.alloc hh _) (by rw [flat_len ci 1 ci_len, hxl.out]) (by rw [flat_ci]; simp [Value.oneCell']) (by unfold maxLen; omega) (by omega) (by simp) rfl rfl rfl rfl ?_); intro v2 w2 hown2 hg2)
    rw [Nat.zero_add, List.nil_append] at hown2
    have HO := Lib.hid hown2
    have HB := Lib.hid (below_app ((Below.refl w.heap.size w).alloc (Nat.le_refl _) (.cells #[] 3)) (Nat.le_refl _) (by simp) hown0.out hg2)
    clear hown2 hg2
    obtain ⟨B, d, rfl, -, -, -⟩ := Rd.of_own HO.out
    go_ret
    exact ⟨B, d, HO.out, HB.out, rfl⟩

theorem cloneInt_d (xs : List Int) (A : Option Addr) (n c : Nat) (w : World) (lo hi : Nat) (hh : hi ≤ w.heap.size) (hn : n ≤ 1048576) (h : D.rd w lo hi (intsD xs) (.slice A n c)) :
    Calls Try.prog 47 #[.slice A n c] w fun e w' => ∃ (B : Option Addr) (d : Nat), Own w' w.heap.size (intsD xs) (.slice B n d) ∧ Below w.heap.size w w' ∧ e = .returned (.slice B n d) :=
  (cloneInt_row xs A n c w lo hi hh hn h.ints).mono fun _ _ ⟨B, d, h1, h2, h3⟩ => ⟨B, d, own_ints h1, h2, h3⟩

end Go.Proofs.Ytgbkjfhmbchiiaa

namespace Go.Proofs.Ytgbkjfhmbchiiaa
set_option linter.unusedVariables false
set_option linter.unusedSimpArgs false
open Go.RowKit

theorem eq_take {xs ys : List Int} {k : Nat} (hl : k < xs.length) (hl' : k < ys.length) (h : xs.take k = ys.take k) (he : xs[k] = ys[k]) : xs.take (k + 1) = ys.take (k + 1) := by
  rw [List.take_succ_eq_append_getElem hl, List.take_succ_eq_append_getElem hl', h, he]
theorem eq_not {xs ys : List Int} {k : Nat} (hl : k < xs.length) (hl' : k < ys.length) (he : ¬ xs[k] = ys[k]) : decide (xs = ys) = false := by
  rw [decide_eq_false_iff_not]; intro e; subst e; exact he rfl
theorem eq_len {xs ys : List Int} (h : ¬ xs.length = ys.length) : decide (xs = ys) = false := by
  rw [decide_eq_false_iff_not]; intro e; subst e; exact h rfl

set_option maxRecDepth 100000 in
set_option maxHeartbeats 800000 in
theorem equalInt_any (xs ys : List Int) (A : Option Addr) (n c : Nat) (B : Option Addr) (m d : Nat) (w : World) (lo hi lo' hi' : Nat) (hn : n ≤ 9223372036854775807) (hm : m ≤ 9223372036854775807) (h : Ints w lo hi A n xs) (h' : Ints w lo' hi' B m ys) :
    Calls Try.prog 49 #[.slice A n c, .slice B m d] w fun e w' => e = .returned (.bool (decide (xs = ys))) ∧ ∃ q, w' = w.drewN q := by
  have HI := Lib.hid h
  have HJ := Lib.hid h'
  have HL := Lib.hid h.1
  have HM := Lib.hid h'.1
  clear h h'
  by_cases hnm : n = m
  · subst hnm
    go_enter Try.func49, Try.ntmps49
    go_wp2_with fail
    go_loopw [13] (fun i wr => ∃ k : Nat, k ≤ n ∧ i = .int .i64 k ∧ Hid (xs.take k = ys.take k) ∧ ∃ q, wr = w.drewN q) (fun i _ => n - (intOf i).toNat)
    case atStart => exact ⟨0, Nat.zero_le _, rfl, rfl, 0, rfl⟩
    case round =>
      obtain ⟨k, hk, rfl, HT, q, rfl⟩ := hrel
      by_cases hlt : k < n
      · obtain ⟨b, o, hl, rfl, _, _, hc⟩ := HI.out.int hlt
        obtain ⟨b', o', hl', rfl, _, _, hc'⟩ := HJ.out.int hlt
        by_cases he : xs[k] = ys[k]
        · have HY := Lib.hid (eq_take hl hl' HT.out he)
          have hd : (xs[k] == ys[k]) = true := by simpa using he
          have hd2 : (!(xs[k] == ys[k])) = false := by rw [hd]; rfl
          have hd3 : (xs[k] != ys[k]) = false := by simpa using he
          clear he
          go_wp2_with fail
          go_quiet (fail)
          go_wp2_with fail
          go_roundw
          case rel => exact ⟨k + 1, by omega, by go_num, HY.out, q + nq, by first | rfl | (simp [World.drewN, Nat.add_assoc]; done)⟩
          case measure => simp [intOf]; omega
        · have HY := Lib.hid (eq_not hl hl' he)
          have hd : (xs[k] == ys[k]) = false := by simpa using he
          have hd2 : (!(xs[k] == ys[k])) = true := by rw [hd]; rfl
          have hd3 : (xs[k] != ys[k]) = true := by simpa using he
          clear he
          go_wp2_with fail
          go_quiet (fail)
          go_wp2_with fail
          go_ret
          exact ⟨ret_bool HY.out.symm, q + nq, by first | rfl | (simp [World.drewN, Nat.add_assoc]; done)⟩
      · have hkn : k = n := by omega
        subst hkn
        have HY : Hid (decide (xs = ys) = true) := by
          show _ = _
          have := HT.out
          rw [List.take_of_length_le (by rw [HL.out]; exact Nat.le_refl _), List.take_of_length_le (by rw [HM.out]; exact Nat.le_refl _)] at this
          exact decide_eq_true this
        go_wp2_with fail
        go_ret
        exact ⟨ret_bool HY.out.symm, q, rfl⟩
  · have HY := Lib.hid (eq_len (xs := xs) (ys := ys) (by rw [HL.out, HM.out]; exact hnm))
    have hq : (!((n : Int) == (m : Int))) = true := by simp; omega
    have hq2 : ((n : Int) != (m : Int)) = true := by simp; omega
    clear hnm
    go_enter Try.func49, Try.ntmps49
    go_wp2_with fail
    go_ret
    exact ⟨ret_bool HY.out.symm, 0, rfl⟩

/-- a row in ascending order -/
def srt (xs : List Int) : List Int := xs.mergeSort fun x y => decide (x ≤ y)
theorem srt_len (xs : List Int) : (srt xs).length = xs.length := by unfold srt; simp
theorem sortInt_row (xs : List Int) (A : Option Addr) (n c base : Nat) (w : World) (hn20 : n ≤ 1048576) (h : w.ownsRow base 3 1 (.slice A n c) n (xs.flatMap ci)) :
    Calls Try.prog 48 #[.slice A n c] w fun e w' => e = .returned (.tuple #[]) ∧ w'.ownsRow base 3 1 (.slice A n c) n ((srt xs).flatMap ci) ∧ Below base w w' := by
  have hl : xs.length = n := by
    have := h.1
    rw [flat_len ci 1 ci_len] at this
    omega
  rcases Nat.eq_zero_or_pos n with h0 | h0
  · subst h0
    have hx : xs = [] := List.eq_nil_of_length_eq_zero hl
    subst hx
    refine (Try.slices_Sort_int_none A c w).mono ?_
    rintro e w' ⟨rfl, rfl⟩
    exact ⟨rfl, by unfold srt; simpa using h, Below.refl _ _⟩
  · rcases h.2 with ⟨e1, -⟩ | ⟨g, cap, cur, e1, hb, hh, hn, hm, hs, ht⟩
    · injection e1 with _ e2 _; omega
    · injection e1 with e1 e2 e3
      subst e1 e3
      subst hl
      have hlt : g < w.heap.size := by
        rcases Nat.lt_or_ge g w.heap.size with hlt | hge
        · exact hlt
        · rw [Array.getElem?_eq_none hge] at hh; cases hh
      have ht' : cur.toList.take xs.length = xs.map (Value.int .i64) := by
        rw [Nat.mul_one] at ht
        rw [ht, flat_ci]
      refine (Try.slices_Sort_int g 0 c xs w (holds_of_blockI hh ht') hlt (by omega)).mono ?_
      rintro e w' ⟨rfl, q, os, rfl⟩
      have h1 := ownsRow_sortedI (base := base) (n := q) (os := os) (srt_len xs) hb hh hn hm hs
      rw [flat_ci]
      refine ⟨rfl, h1, ?_⟩
      exact (Below.refl _ _).grown (grownBy_sortedI _) (by omega) (fun j hj => by injection hj with hj; omega)

end Go.Proofs.Ytgbkjfhmbchiiaa

namespace Go.Proofs.Ytgbkjfhmbchiiaa
set_option linter.unusedVariables false
set_option linter.unusedSimpArgs false
open Go.RowKit

theorem coordB_fin {c : CoordD} (h : c.txns.all txnB = true) : coordB c = (decide (c.txns.length ≤ 12) && decide (srt c.order = comms c.txns)) := by
  unfold coordB
  rw [h]; rfl
theorem txns_all {ts : List TxnD} {k : Nat} (hl : k < ts.length) (h : (ts.take k).all txnB = true) (hv : txnB ts[k] = true) : (ts.take (k + 1)).all txnB = true := by
  rw [List.take_succ_eq_append_getElem hl, List.all_append, h]; simp [hv]

set_option maxHeartbeats 3200000 in
set_option maxRecDepth 100000 in
theorem implCoord_any (txns : List TxnD) (order : List Int) (A0 : Option Addr) (n0 c0 : Nat) (A1 : Option Addr) (n1 c1 : Nat) (w : World) (lo hi : Nat) (hh : hi ≤ w.heap.size) (hr0 : D.rd w lo hi (dTxns txns) (.slice A0 n0 c0)) (hr1 : D.rd w lo hi (intsD order) (.slice A1 n1 c1)) (hn0 : n0 ≤ 1048576) (hn1 : n1 ≤ 1048576)
    (hwf : ∀ t ∈ txns, ∀ v ∈ t.votes, (Lit.int .i64 v).wf = true) :
    Calls Try.prog 28 #[.agg #[.slice A0 n0 c0, .slice A1 n1 c1]] w fun e w' => e = .returned (.bool (coordB ⟨txns, order⟩)) ∧ Below w.heap.size w w' := by
  have HB0 : Hid (Below w.heap.size w (w.alloc (.cells #[.slice A0 n0 c0, .slice A1 n1 c1] 26))) := (Below.refl _ _).alloc (Nat.le_refl _) _
  have HX0 : Hid ((w.alloc (.cells #[.slice A0 n0 c0, .slice A1 n1 c1] 26)).heap[w.heap.size]? = some (.cells #[.slice A0 n0 c0, .slice A1 n1 c1] 26 (0, 0))) := Lib.hid (heap_alloc_new w _)
  have HI := Lib.hid hr0
  have HO := Lib.hid hr1.ints
  have HN0 := Lib.hid hr0.len.1
  have HN1 := Lib.hid hr1.ints.1
  have HWF := Lib.hid hwf
  have HR0 : Hid (World.ownsRow (w.alloc (.cells #[.slice A0 n0 c0, .slice A1 n1 c1] 26)) (w.heap.size + 1) 3 1 (.slice none 0 0) 0 ((commTo txns 0).flatMap ci)) := Lib.hid (World.ownsRow_nil _ _ _ _)
  clear hr0 hr1 hwf
  go_enter Try.func28, Try.ntmps28
  go_wp2_with fail
  go_loopw [3, 10] (fun y i wr => ∃ (k m : Nat) (v : Value), k ≤ n0 ∧ m ≤ k ∧ i = .int .i64 k ∧ v = y ∧ Hid (wr.ownsRow (w.heap.size + 1) 3 1 v m ((commTo txns k).flatMap ci)) ∧ Hid ((txns.take k).all txnB = true) ∧ Hid (wr.heap[w.heap.size]? = some (.cells #[.slice A0 n0 c0, .slice A1 n1 c1] 26 (0, 0))) ∧ Below w.heap.size w wr) (fun _ i _ => n0 - (intOf i).toNat)
  case atStart => exact ⟨0, 0, _, Nat.zero_le _, Nat.le_refl _, rfl, rfl, HR0.out, rfl, HX0.out, HB0.out⟩
  case round =>
    obtain ⟨k, m, v, hk, hmk, rfl, rfl, HR, HT, HX, hb⟩ := hrel
    have HB := Lib.hid hb
    have hwsz : w.heap.size < wr.heap.size := hlt_of HX.out
    have b0 := cell_of_row wr w.heap.size 0 _ _ _ HX.out
    have b1 := cell_of_row wr w.heap.size 1 _ _ _ HX.out
    clear hb HX0 HB0 HR0
    by_cases hlt : k < n0
    · obtain ⟨b, o, hl, A2, n2, c2, A3, n3, c3, rfl, _, hbh, hc0, hc1, hc2, ⟨hn2, hm2, hr2⟩, ⟨hn3, hm3, hr3⟩⟩ := rd_Txn (HI.out.below HB.out hh) hlt
      have hhr : hi ≤ wr.heap.size := by omega
      have hbw : b < wr.heap.size := by omega
      have HR2 := Lib.hid (hr2.alloc hhr (.cells #[.slice A2 n2 c2, .slice A3 n3 c3, .int .i64 txns[k].dec] 46))
      have HR3 := Lib.hid (hr3.alloc hhr (.cells #[.slice A2 n2 c2, .slice A3 n3 c3, .int .i64 txns[k].dec] 46))
      have HBA : Hid (Below w.heap.size w (wr.alloc (.cells #[.slice A2 n2 c2, .slice A3 n3 c3, .int .i64 txns[k].dec] 46))) := Lib.hid (HB.out.alloc (by omega) _)
      have HXA : Hid ((wr.alloc (.cells #[.slice A2 n2 c2, .slice A3 n3 c3, .int .i64 txns[k].dec] 46)).heap[w.heap.size]? = some (.cells #[.slice (some ⟨b, o, none⟩) n0 c0, .slice A1 n1 c1] 26 (0, 0))) := Lib.hid ((Below.heap_alloc wr _ _ hwsz).trans HX.out)
      have HYA : Hid ((wr.alloc (.cells #[.slice A2 n2 c2, .slice A3 n3 c3, .int .i64 txns[k].dec] 46)).heap[wr.heap.size]? = some (.cells #[.slice A2 n2 c2, .slice A3 n3 c3, .int .i64 txns[k].dec] 46 (0, 0))) := Lib.hid (heap_alloc_new wr _)
      have hwv : ∀ v ∈ txns[k].votes, (Lit.int .i64 v).wf = true := HWF.out _ (List.getElem_mem hl)
      have HWV := Lib.hid hwv
      clear hr2 hr3 hwv
      rcases hv : txnB txns[k] with _ | _
      · have hno := Lib.hid (coordB_no1 (c := ⟨txns, order⟩) hl hv)
        have hv' : txnB ⟨txns[k].parts, txns[k].votes, txns[k].dec⟩ = false := hv
        clear hv
        go_wp2_with fail
        refine (txnOk_any txns[k].parts txns[k].votes txns[k].dec A2 n2 c2 A3 n3 c3 _ lo hi (by simp; omega) HR2.out HR3.out HWV.out).mono ?_
        rintro e w1 ⟨rfl, hb1⟩
        have HB1 := Lib.hid (bel_tr HBA.out (Nat.le_refl _) hb1)
        clear hb1
        rw [hv']
        go_wp2_with fail
        go_ret
        exact ⟨ret_bool hno.out.symm, HB1.out⟩
      · have hv' : txnB ⟨txns[k].parts, txns[k].votes, txns[k].dec⟩ = true := hv
        have HT2 := Lib.hid (txns_all hl HT.out hv)
        have HC := Lib.hid (comAt_get hl)
        clear hv
        go_wp2_with fail
        refine (txnOk_any txns[k].parts txns[k].votes txns[k].dec A2 n2 c2 A3 n3 c3 _ lo hi (by simp; omega) HR2.out HR3.out HWV.out).mono ?_
        rintro e w1 ⟨rfl, hb1⟩
        have HB1 := Lib.hid (bel_tr HBA.out (Nat.le_refl _) hb1)
        have HX1 := Lib.hid ((hb1.block _ (by simp; omega)).trans HXA.out)
        have HY1 := Lib.hid ((hb1.block _ (by simp)).trans HYA.out)
        have hz1 : w.heap.size < w1.heap.size := hlt_of HX1.out
        have hz1b : wr.heap.size < w1.heap.size := hlt_of HY1.out
        have d2 := cell_of_row w1 wr.heap.size 2 _ _ _ HY1.out
        have HR1 := Lib.hid (own_below (HR.out.alloc (.cells #[.slice A2 n2 c2, .slice A3 n3 c3, .int .i64 txns[k].dec] 46)) hb1)
        clear hb1
        rw [hv']
        by_cases hd : txns[k].dec = 2
        · have hd2 : (txns[k].dec == 2) = true := by simpa using hd
          have HC2 : Hid (comAt txns k = true) := HC.out.trans (decide_eq_true hd)
          have HCS : Hid (commTo txns (k + 1) = commTo txns k ++ [(k : Int)]) := by show _ = _; rw [commTo_succ, if_pos HC2.out]
          clear hd
          go_wp2_with (at_builtin; go_must (refine wpList_app Try.elI (m := 1) (HR1.out.alloc _) (rd_newn (n := w1.heap.size) rfl [.int .i64 (k : Int)] 3) rfl (by simp [Value.oneCell']) (by unfold maxLen; omega) (by omega) (by simp; omega) rfl rfl rfl rfl ?_); intro v2 w2 hown2 hg2; have HO2 := Lib.hid hown2; have HB2 := Lib.hid (below_app (HB1.out.alloc (by omega) _) (by omega : w.heap.size ≤ w.heap.size + 1) (by simp; omega) (HR1.out.alloc _) hg2); have HX2 := Lib.hid ((hg2.block _ (by simp; omega) (fun e => by have := (HR1.out.lt w.heap.size e.symm).1; omega)).trans ((Below.heap_alloc w1 _ _ hz1).trans HX1.out)); clear hown2 hg2)
          have HO3 : Hid (w2.ownsRow (w.heap.size + 1) 3 1 v2 (m + 1) ((commTo txns (k + 1)).flatMap ci)) := by
            have := HO2.out
            show World.ownsRow _ _ _ _ _ _ _
            rw [HCS.out, List.flatMap_append]; exact this
          go_wp2_with fail
          exact ⟨⟨k + 1, m + 1, _, by omega, by omega, by go_num, rfl, HO3.out, HT2.out, HX2, HB2.out⟩, by simp [intOf]; omega⟩
        · have hd2 : (txns[k].dec == 2) = false := by simpa using hd
          have HC2 : Hid (comAt txns k = false) := HC.out.trans (decide_eq_false hd)
          have HCS : Hid (commTo txns (k + 1) = commTo txns k) := by show _ = _; rw [commTo_succ, HC2.out]; rfl
          have HO3 : Hid (w1.ownsRow (w.heap.size + 1) 3 1 v m ((commTo txns (k + 1)).flatMap ci)) := by
            show World.ownsRow _ _ _ _ _ _ _
            rw [HCS.out]; exact HR1.out
          clear hd
          go_wp2_with fail
          exact ⟨⟨k + 1, m, _, by omega, by omega, by go_num, rfl, HO3.out, HT2.out, HX1, HB1.out⟩, by simp [intOf]; omega⟩
    · have hkn : k = n0 := by omega
      subst hkn
      have htk : txns.take k = txns := List.take_of_length_le (by have := HN0.out; omega)
      rw [htk] at HT
      have HE := Lib.hid (coordB_fin (c := ⟨txns, order⟩) HT.out)
      have HCM : Hid (comms txns = commTo txns k) := by show _ = _; rw [comms_to, HN0.out]
      obtain ⟨A4, c4, rfl, hc4, hm4, hrd4⟩ := Rd.of_own HR.out
      have hm4' : m ≤ 9223372036854775807 := by omega
      clear htk hc4 hm4 hrd4
      go_wp2_with fail
      refine (cloneInt_row order A1 n1 c1 wr lo hi (by omega) (by omega) (HO.out.below HB.out hh)).mono ?_
      rintro e w1 ⟨B1, d1, ho1, hb1, rfl⟩
      have HB1 := Lib.hid (bel_tr HB.out (Nat.le_refl _) hb1)
      have HR1 := Lib.hid (own_below HR.out hb1)
      have HX1 := Lib.hid ((hb1.block _ hwsz).trans HX.out)
      have HO1 := Lib.hid ho1
      have hs1 := hb1.size
      have HW1 := Lib.hid hb1
      clear ho1 hb1
      go_wp2_with fail
      refine (sortInt_row order B1 n1 d1 wr.heap.size w1 (by omega) HO1.out).mono ?_
      rintro e w2 ⟨rfl, ho2, hb2⟩
      have HB2 := Lib.hid (HB1.out.trans (hb2.mono (by omega)))
      have HR2 := Lib.hid (own_below HR.out (HW1.out.trans hb2))
      have HX2 := Lib.hid ((hb2.block _ (by omega)).trans HX1.out)
      have HO2 := Lib.hid ho2
      have e0 := cell_of_row w2 w.heap.size 0 _ _ _ HX2.out
      obtain ⟨_, _, hv5, -, -, hrd5⟩ := Rd.of_own HO2.out
      injection hv5 with h5 _ h6
      subst h5 h6
      obtain ⟨_, _, hv6, -, -, hrd6⟩ := Rd.of_own HR2.out
      injection hv6 with h5 _ h6
      subst h5 h6
      have hlo : order.length = n1 := HN1.out
      have HQ5 : Hid (Ints w2 wr.heap.size w2.heap.size B1 n1 (srt order)) := ⟨by rw [srt_len]; exact hlo, hrd5⟩
      have HQ6 : Hid (Ints w2 (w.heap.size + 1) w2.heap.size A4 m (commTo txns k)) := ⟨by have := HR2.out.1; rw [flat_len ci 1 ci_len] at this; omega, hrd6⟩
      clear ho2 hb2 hrd5 hrd6
      go_wp2_with (go_at_call 49; refine (equalInt_any (srt order) (commTo txns k) B1 n1 d1 A4 m c4 _ _ _ _ _ (by omega) hm4' HQ5.out HQ6.out).mono ?_; rintro e w3 ⟨rfl, q, rfl⟩)
      · go_ret
        refine ⟨ret_bool ?_, below_drewN HB2.out _⟩
        rw [HE.out, HCM.out]
        show _ = (decide (txns.length ≤ 12) && _)
        rw [← HN0.out, decide_eq_true (by omega : k ≤ 12)]; first | rfl | simp
      · go_ret
        refine ⟨ret_bool ?_, HB2.out⟩
        rw [HE.out]
        show _ = (decide (txns.length ≤ 12) && _)
        rw [← HN0.out, decide_eq_false (by omega : ¬ k ≤ 12)]; rfl

end Go.Proofs.Ytgbkjfhmbchiiaa
