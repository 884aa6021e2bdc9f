/-
  The walk of the program's CoordinatorValid: whether a coordinator is valid. Condition: lengths are small, the votes are ints.
-/
import Derived.Test.YtgbkjfhmbchiiaaCoordW
import Derived.Test.YtgbkjfhmbchiiaaSortI
import Derived.Test.YtgbkjfhmbchiiaaAppAt
namespace Go.Proofs.Ytgbkjfhmbchiiaa
set_option linter.unusedVariables false
set_option linter.unusedSimpArgs false
open Go.RowKit

theorem coordB_fin {c : CoordD} (h : c.txns.all txnB = true) : coordB c = (decide (c.txns.length ≤ 12) && decide (srt c.order = comms c.txns)) := by
  unfold coordB
  rw [h]; rfl
theorem txns_all {ts : List TxnD} {k : Nat} (hl : k < ts.length) (h : (ts.take k).all txnB = true) (hv : txnB ts[k] = true) : (ts.take (k + 1)).all txnB = true := by
  rw [List.take_succ_eq_append_getElem hl, List.all_append, h]; simp [hv]

set_option maxHeartbeats 3200000 in
set_option maxRecDepth 100000 in
theorem implCoord_any (txns : List TxnD) (order : List Int) (A0 : Option Addr) (n0 c0 : Nat) (A1 : Option Addr) (n1 c1 : Nat) (w : World) (lo hi : Nat) (hh : hi ≤ w.heap.size) (hr0 : D.rd w lo hi (dTxns txns) (.slice A0 n0 c0)) (hr1 : D.rd w lo hi (intsD order) (.slice A1 n1 c1)) (hn0 : n0 ≤ 1048576) (hn1 : n1 ≤ 1048576)
    (hwf : ∀ t ∈ txns, ∀ v ∈ t.votes, (Lit.int .i64 v).wf = true) :
    Calls Try.prog 28 #[.agg #[.slice A0 n0 c0, .slice A1 n1 c1]] w fun e w' => e = .returned (.bool (coordB ⟨txns, order⟩)) ∧ Below w.heap.size w w' := by
  have HB0 : Hid (Below w.heap.size w (w.alloc (.cells #[.slice A0 n0 c0, .slice A1 n1 c1] 26))) := (Below.refl _ _).alloc (Nat.le_refl _) _
  have HX0 : Hid ((w.alloc (.cells #[.slice A0 n0 c0, .slice A1 n1 c1] 26)).heap[w.heap.size]? = some (.cells #[.slice A0 n0 c0, .slice A1 n1 c1] 26 (0, 0))) := Lib.hid (heap_alloc_new w _)
  have HI := Lib.hid hr0
  have HO := Lib.hid hr1.ints
  have HN0 := Lib.hid hr0.len.1
  have HN1 := Lib.hid hr1.ints.1
  have HWF := Lib.hid hwf
  have HR0 : Hid (World.ownsRow (w.alloc (.cells #[.slice A0 n0 c0, .slice A1 n1 c1] 26)) (w.heap.size + 1) 3 1 (.slice none 0 0) 0 ((commTo txns 0).flatMap ci)) := Lib.hid (World.ownsRow_nil _ _ _ _)
  clear hr0 hr1 hwf
  go_enter Try.func28, Try.ntmps28
  go_wp2_with fail
  go_loopw [3, 10] (fun y i wr => ∃ (k m : Nat) (v : Value), k ≤ n0 ∧ m ≤ k ∧ i = .int .i64 k ∧ v = y ∧ Hid (wr.ownsRow (w.heap.size + 1) 3 1 v m ((commTo txns k).flatMap ci)) ∧ Hid ((txns.take k).all txnB = true) ∧ Hid (wr.heap[w.heap.size]? = some (.cells #[.slice A0 n0 c0, .slice A1 n1 c1] 26 (0, 0))) ∧ Below w.heap.size w wr) (fun _ i _ => n0 - (intOf i).toNat)
  case atStart => exact ⟨0, 0, _, Nat.zero_le _, Nat.le_refl _, rfl, rfl, HR0.out, rfl, HX0.out, HB0.out⟩
  case round =>
    obtain ⟨k, m, v, hk, hmk, rfl, rfl, HR, HT, HX, hb⟩ := hrel
    have HB := Lib.hid hb
    have hwsz : w.heap.size < wr.heap.size := hlt_of HX.out
    have b0 := cell_of_row wr w.heap.size 0 _ _ _ HX.out
    have b1 := cell_of_row wr w.heap.size 1 _ _ _ HX.out
    clear hb HX0 HB0 HR0
    by_cases hlt : k < n0
    · obtain ⟨b, o, hl, A2, n2, c2, A3, n3, c3, rfl, _, hbh, hc0, hc1, hc2, ⟨hn2, hm2, hr2⟩, ⟨hn3, hm3, hr3⟩⟩ := rd_Txn (HI.out.below HB.out hh) hlt
      have hhr : hi ≤ wr.heap.size := by omega
      have hbw : b < wr.heap.size := by omega
      have HR2 := Lib.hid (hr2.alloc hhr (.cells #[.slice A2 n2 c2, .slice A3 n3 c3, .int .i64 txns[k].dec] 46))
      have HR3 := Lib.hid (hr3.alloc hhr (.cells #[.slice A2 n2 c2, .slice A3 n3 c3, .int .i64 txns[k].dec] 46))
      have HBA : Hid (Below w.heap.size w (wr.alloc (.cells #[.slice A2 n2 c2, .slice A3 n3 c3, .int .i64 txns[k].dec] 46))) := Lib.hid (HB.out.alloc (by omega) _)
      have HXA : Hid ((wr.alloc (.cells #[.slice A2 n2 c2, .slice A3 n3 c3, .int .i64 txns[k].dec] 46)).heap[w.heap.size]? = some (.cells #[.slice (some ⟨b, o, none⟩) n0 c0, .slice A1 n1 c1] 26 (0, 0))) := Lib.hid ((Below.heap_alloc wr _ _ hwsz).trans HX.out)
      have HYA : Hid ((wr.alloc (.cells #[.slice A2 n2 c2, .slice A3 n3 c3, .int .i64 txns[k].dec] 46)).heap[wr.heap.size]? = some (.cells #[.slice A2 n2 c2, .slice A3 n3 c3, .int .i64 txns[k].dec] 46 (0, 0))) := Lib.hid (heap_alloc_new wr _)
      have hwv : ∀ v ∈ txns[k].votes, (Lit.int .i64 v).wf = true := HWF.out _ (List.getElem_mem hl)
      have HWV := Lib.hid hwv
      clear hr2 hr3 hwv
      rcases hv : txnB txns[k] with _ | _
      · have hno := Lib.hid (coordB_no1 (c := ⟨txns, order⟩) hl hv)
        have hv' : txnB ⟨txns[k].parts, txns[k].votes, txns[k].dec⟩ = false := hv
        clear hv
        go_wp2_with fail
        refine (txnOk_any txns[k].parts txns[k].votes txns[k].dec A2 n2 c2 A3 n3 c3 _ lo hi (by simp; omega) HR2.out HR3.out HWV.out).mono ?_
        rintro e w1 ⟨rfl, hb1⟩
        have HB1 := Lib.hid (bel_tr HBA.out (Nat.le_refl _) hb1)
        clear hb1
        rw [hv']
        go_wp2_with fail
        go_ret
        exact ⟨ret_bool hno.out.symm, HB1.out⟩
      · have hv' : txnB ⟨txns[k].parts, txns[k].votes, txns[k].dec⟩ = true := hv
        have HT2 := Lib.hid (txns_all hl HT.out hv)
        have HC := Lib.hid (comAt_get hl)
        clear hv
        go_wp2_with fail
        refine (txnOk_any txns[k].parts txns[k].votes txns[k].dec A2 n2 c2 A3 n3 c3 _ lo hi (by simp; omega) HR2.out HR3.out HWV.out).mono ?_
        rintro e w1 ⟨rfl, hb1⟩
        have HB1 := Lib.hid (bel_tr HBA.out (Nat.le_refl _) hb1)
        have HX1 := Lib.hid ((hb1.block _ (by simp; omega)).trans HXA.out)
        have HY1 := Lib.hid ((hb1.block _ (by simp)).trans HYA.out)
        have hz1 : w.heap.size < w1.heap.size := hlt_of HX1.out
        have hz1b : wr.heap.size < w1.heap.size := hlt_of HY1.out
        have d2 := cell_of_row w1 wr.heap.size 2 _ _ _ HY1.out
        have HR1 := Lib.hid (own_below (HR.out.alloc (.cells #[.slice A2 n2 c2, .slice A3 n3 c3, .int .i64 txns[k].dec] 46)) hb1)
        clear hb1
        rw [hv']
        by_cases hd : txns[k].dec = 2
        · have hd2 : (txns[k].dec == 2) = true := by simpa using hd
          have HC2 : Hid (comAt txns k = true) := HC.out.trans (decide_eq_true hd)
          have HCS : Hid (commTo txns (k + 1) = commTo txns k ++ [(k : Int)]) := by show _ = _; rw [commTo_succ, if_pos HC2.out]
          clear hd
          go_wp2_with (at_builtin; go_must (refine wpList_app Try.elI (m := 1) (HR1.out.alloc _) (rd_newn (n := w1.heap.size) rfl [.int .i64 (k : Int)] 3) rfl (by simp [Value.oneCell']) (by unfold maxLen; omega) (by omega) (by simp; omega) rfl rfl rfl rfl ?_); intro v2 w2 hown2 hg2; have HO2 := Lib.hid hown2; have HB2 := Lib.hid (below_app (HB1.out.alloc (by omega) _) (by omega : w.heap.size ≤ w.heap.size + 1) (by simp; omega) (HR1.out.alloc _) hg2); have HX2 := Lib.hid ((hg2.block _ (by simp; omega) (fun e => by have := (HR1.out.lt w.heap.size e.symm).1; omega)).trans ((Below.heap_alloc w1 _ _ hz1).trans HX1.out)); clear hown2 hg2)
          have HO3 : Hid (w2.ownsRow (w.heap.size + 1) 3 1 v2 (m + 1) ((commTo txns (k + 1)).flatMap ci)) := by
            have := HO2.out
            show World.ownsRow _ _ _ _ _ _ _
            rw [HCS.out, List.flatMap_append]; exact this
          go_wp2_with fail
          exact ⟨⟨k + 1, m + 1, _, by omega, by omega, by go_num, rfl, HO3.out, HT2.out, HX2, HB2.out⟩, by simp [intOf]; omega⟩
        · have hd2 : (txns[k].dec == 2) = false := by simpa using hd
          have HC2 : Hid (comAt txns k = false) := HC.out.trans (decide_eq_false hd)
          have HCS : Hid (commTo txns (k + 1) = commTo txns k) := by show _ = _; rw [commTo_succ, HC2.out]; rfl
          have HO3 : Hid (w1.ownsRow (w.heap.size + 1) 3 1 v m ((commTo txns (k + 1)).flatMap ci)) := by
            show World.ownsRow _ _ _ _ _ _ _
            rw [HCS.out]; exact HR1.out
          clear hd
          go_wp2_with fail
          exact ⟨⟨k + 1, m, _, by omega, by omega, by go_num, rfl, HO3.out, HT2.out, HX1, HB1.out⟩, by simp [intOf]; omega⟩
    · have hkn : k = n0 := by omega
      subst hkn
      have htk : txns.take k = txns := List.take_of_length_le (by have := HN0.out; omega)
      rw [htk] at HT
      have HE := Lib.hid (coordB_fin (c := ⟨txns, order⟩) HT.out)
      have HCM : Hid (comms txns = commTo txns k) := by show _ = _; rw [comms_to, HN0.out]
      obtain ⟨A4, c4, rfl, hc4, hm4, hrd4⟩ := Rd.of_own HR.out
      have hm4' : m ≤ 9223372036854775807 := by omega
      clear htk hc4 hm4 hrd4
      go_wp2_with fail
      refine (cloneInt_row order A1 n1 c1 wr lo hi (by omega) (by omega) (HO.out.below HB.out hh)).mono ?_
      rintro e w1 ⟨B1, d1, ho1, hb1, rfl⟩
      have HB1 := Lib.hid (bel_tr HB.out (Nat.le_refl _) hb1)
      have HR1 := Lib.hid (own_below HR.out hb1)
      have HX1 := Lib.hid ((hb1.block _ hwsz).trans HX.out)
      have HO1 := Lib.hid ho1
      have hs1 := hb1.size
      have HW1 := Lib.hid hb1
      clear ho1 hb1
      go_wp2_with fail
      refine (sortInt_row order B1 n1 d1 wr.heap.size w1 (by omega) HO1.out).mono ?_
      rintro e w2 ⟨rfl, ho2, hb2⟩
      have HB2 := Lib.hid (HB1.out.trans (hb2.mono (by omega)))
      have HR2 := Lib.hid (own_below HR.out (HW1.out.trans hb2))
      have HX2 := Lib.hid ((hb2.block _ (by omega)).trans HX1.out)
      have HO2 := Lib.hid ho2
      have e0 := cell_of_row w2 w.heap.size 0 _ _ _ HX2.out
      obtain ⟨_, _, hv5, -, -, hrd5⟩ := Rd.of_own HO2.out
      injection hv5 with h5 _ h6
      subst h5 h6
      obtain ⟨_, _, hv6, -, -, hrd6⟩ := Rd.of_own HR2.out
      injection hv6 with h5 _ h6
      subst h5 h6
      have hlo : order.length = n1 := HN1.out
      have HQ5 : Hid (Ints w2 wr.heap.size w2.heap.size B1 n1 (srt order)) := ⟨by rw [srt_len]; exact hlo, hrd5⟩
      have HQ6 : Hid (Ints w2 (w.heap.size + 1) w2.heap.size A4 m (commTo txns k)) := ⟨by have := HR2.out.1; rw [flat_len ci 1 ci_len] at this; omega, hrd6⟩
      clear ho2 hb2 hrd5 hrd6
      go_wp2_with (go_at_call 49; refine (equalInt_any (srt order) (commTo txns k) B1 n1 d1 A4 m c4 _ _ _ _ _ (by omega) hm4' HQ5.out HQ6.out).mono ?_; rintro e w3 ⟨rfl, q, rfl⟩)
      · go_ret
        refine ⟨ret_bool ?_, below_drewN HB2.out _⟩
        rw [HE.out, HCM.out]
        show _ = (decide (txns.length ≤ 12) && _)
        rw [← HN0.out, decide_eq_true (by omega : k ≤ 12)]; first | rfl | simp
      · go_ret
        refine ⟨ret_bool ?_, HB2.out⟩
        rw [HE.out]
        show _ = (decide (txns.length ≤ 12) && _)
        rw [← HN0.out, decide_eq_false (by omega : ¬ k ≤ 12)]; rfl

end Go.Proofs.Ytgbkjfhmbchiiaa
