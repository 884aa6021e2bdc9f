/-
  The walks of markObjectS and heldObjectS: numbers and texts are turned into marks; such marks are told. Condition: few elements, small marks.
-/
import Derived.Test.YtgpjcmplnigmcaaMInt
import Derived.Test.YtgpjcmplnigmcaaM5
namespace Go.Proofs.Ytgpjcmplnigmcaa
set_option linter.unusedVariables false
set_option linter.unusedSimpArgs false
open Go.RowKit

theorem dObjects_flat (xs : List ObjD) : dObjects xs = .arr 3 xs.length (xs.flatMap fObject) := rfl

set_option maxRecDepth 100000 in
set_option maxHeartbeats 3200000 in
theorem markObjectS_d (xs : List ObjD) (A : Option Addr) (n c k : Nat) (ki : Int) (FF : List Nat) (w : World) (hki : ki = (k : Int)) (h1 : 1 ≤ k) (hk : k + D.cnt (dObjects xs) ≤ 1099511627776) (hF : FF.Nodup) (hlt : ∀ x ∈ FF, x < w.heap.size) (h : D.own w (dObjects xs) FF (.slice A n c)) :
    Calls Try.prog 20 #[.slice A n c, .int .i64 ki] w fun e w' => MarkR (dObjects xs) k FF (.slice A n c) w e w' := by
  subst hki
  rw [dObjects_flat] at h hk ⊢
  have hl := own_len h
  have hn : xs.length = n := hl.1.symm
  have hnc := hl.2.1
  have hc63 := hl.2.2.1
  clear hl
  rw [hn] at h hk hnc ⊢
  rw [cnt_arr] at hk
  rcases Nat.eq_zero_or_pos n with h0 | h0
  · subst h0
    have hx : xs = [] := List.eq_nil_of_length_eq_zero hn
    subst hx
    have HO := Lib.hid h
    clear h hn
    go_enter Try.func20, Try.ntmps20
    go_wp2_with fail
    refine wp_loop_rounds 1 ?_
    rw [rounds_succ]
    go_wp2_with fail
    go_ret
    refine ⟨?_, Chg.refl _ _, ?_⟩
    · rw [mark_arr, List.flatMap_nil, markL_nil]; exact HO.out
    · rw [cnt_arr, List.flatMap_nil, cntL_nil]; rfl
  · obtain ⟨g, o, rfl, hgF⟩ := own_row h h0 (by omega)
    have HO := Lib.hid h
    have HF := Lib.hid hF
    have HLT := Lib.hid hlt
    have HK := Lib.hid hk
    have HN := Lib.hid hn
    clear h hF hlt hk hn
    go_enter Try.func20, Try.ntmps20
    go_wp2_with fail
    go_loopw [1, 5] (fun l i wr => ∃ j : Nat, j ≤ n ∧ i = .int .i64 j ∧ l = .int .i64 ((k + cntTo fObject xs j : Nat) : Int) ∧ D.own wr (.arr 3 n (markTo fObject xs k j)) FF (.slice (some ⟨g, o, none⟩) n c) ∧ Chg w wr FF) (fun _ i _ => n - (intOf i).toNat)
    case atStart => exact ⟨0, Nat.zero_le _, rfl, by rw [cntTo_zero]; rfl, by rw [markTo_zero]; exact HO.out, Chg.refl _ _⟩
    case round =>
      obtain ⟨j, hj, rfl, rfl, hown, hch⟩ := hrel
      have H0 := Lib.hid hown
      have HC0 := Lib.hid hch
      have hws := hch.2.2.2.1
      have HL0 : Hid (∀ x ∈ FF, x < wr.heap.size) := fun x hx => Nat.lt_of_lt_of_le (HLT.out x hx) hws
      clear hown hch
      by_cases hlt : j < n
      · have hjl : j < xs.length := by rw [HN.out]; exact hlt
        obtain ⟨q, hq⟩ : ∃ q, k + cntTo fObject xs j = q := ⟨_, rfl⟩
        have hq00 : 1 ≤ q := by omega
        have hqk : q + D.cntL (fObject xs[j]) ≤ 1099511627776 := by
          have h2 := cntTo_le (f := fObject) (xs := xs) (j := j + 1) (by omega)
          rw [cntTo_succ hjl] at h2
          have h3 := HK.out
          omega
        have HQ := Lib.hid hq
        have hcs : D.cntL (fObject xs[j]) = 1 + D.cnt (intsD xs[j].links) + 1 := by
          unfold fObject
          simp only [cntL_cons, cntL_nil, cnt_int, cnt_str]
          try omega
        have HCS := Lib.hid hcs
        rw [hcs] at hqk
        rw [hq]
        clear hq hcs
        obtain ⟨⟨u0, hg0⟩, hf0, -, hp0⟩ := own_put H0.out HF.out (p := j * 3) (i := 0) (markTo_get fObject_len hjl (by omega)) (.inl ⟨_, rfl⟩) (.int (((q : Nat) : Int))) (.int .i64 (((q : Nat) : Int))) (fun W => D.own.int W _)
        simp only [Nat.add_zero, Nat.mul_one] at hg0 hf0 hp0
        have HP0 := Lib.hid hp0
        clear hp0
        have HC100 := Lib.hid (HC0.out.set hgF (o + j * 3) (.int .i64 (((q : Nat) : Int))))
        have HL100 : Hid (∀ x ∈ FF, x < (wr.setCell ⟨g, o + j * 3, none⟩ (.int .i64 (((q : Nat) : Int)))).heap.size) := fun x hx => by simpa [World.setCell] using HL0.out x hx
        obtain ⟨A1, c1, F1, hs1, ho1, hn1, hsub1, -, hgn1, hre1⟩ := own_arr HP0.out HF.out (p := j * 3) (i := 1) ((List.getElem?_set_ne (by omega)).trans (markTo_get fObject_len hjl (by omega)))
        have HO1 := Lib.hid ho1
        have HS1 := Lib.hid hsub1
        have HR1 := Lib.hid hre1
        have HND1 := Lib.hid hn1
        clear ho1 hsub1 hre1 hn1 hgn1
        go_wp2_with fail
        refine (markIntS_d xs[j].links A1 _ c1 (q + 1) _ F1 _ (by first | rfl | (simp; done) | omega) (by omega) (by omega) HND1.out (fun x hx => HL100.out x (HS1.out x hx)) HO1.out).mono ?_
        rintro e w1 ⟨ho1, hch1, rfl⟩
        have HC101 := Lib.hid (HC100.out.tr (hch1.more HS1.out))
        have HL101 : Hid (∀ x ∈ FF, x < w1.heap.size) := fun x hx => Nat.lt_of_lt_of_le (HL100.out x hx) hch1.2.2.2.1
        have HP1 := Lib.hid (HR1.out w1 _ hch1 HL100.out ho1)
        clear ho1 hch1
        obtain ⟨q1, hq1⟩ : ∃ q1 : Nat, q1 = q + 1 + D.cnt (intsD xs[j].links) := ⟨_, rfl⟩
        rw [← hq1]
        have hqb1 : q1 ≤ 1099511627776 := by omega
        have hqc1 : 1 ≤ q1 := by omega
        have HQ1 := Lib.hid hq1
        have hqe1 : q + 1 + D.cnt (intsD xs[j].links) ≤ q1 := by omega
        have hqf1 : q1 ≤ q + 1 + D.cnt (intsD xs[j].links) := by omega
        clear hq1
        go_wp2_with fail
        refine (markText_d (q1) _ _ (by first | rfl | (simp; done) | omega) (by omega) (by omega)).mono ?_
        rintro e w2 ⟨rfl, hb2⟩
        have HC202 := Lib.hid (HC101.out.bel hb2)
        have HL202 : Hid (∀ x ∈ FF, x < w2.heap.size) := fun x hx => Nat.lt_of_lt_of_le (HL101.out x hx) hb2.size
        have HT2 := Lib.hid (D.own.keep _ FF _ (fun x hx => hb2.block x (HL101.out x hx)) HP1.out)
        clear hb2
        obtain ⟨⟨u2, hg2⟩, hf2, -, hp2⟩ := own_put HT2.out HF.out (p := j * 3) (i := 2) ((List.getElem?_set_ne (by omega)).trans ((List.getElem?_set_ne (by omega)).trans (markTo_get fObject_len hjl (by omega)))) (.inr ⟨_, rfl⟩) (.str (markT (q1))) (.string (markT (q1))) (fun W => D.own.str W (by have := markT_size (q1); omega))
        have HP2 := Lib.hid hp2
        clear hp2
        have HC102 := Lib.hid (HC202.out.set hgF (o + j * 3 + 2) (.string (markT (q1))))
        have HL102 : Hid (∀ x ∈ FF, x < (w2.setCell ⟨g, o + j * 3 + 2, none⟩ (.string (markT (q1)))).heap.size) := fun x hx => by simpa [World.setCell] using HL202.out x hx
        have hm : D.markL (fObject xs[j]) q = [.int (((q : Nat) : Int)), D.mark (intsD xs[j].links) (q + 1), .str (markT (q1))] := by
          unfold fObject
          simp only [markL_cons, markL_nil, mark_int, mark_str, cnt_int, cnt_str]
          try rw [HQ1.out]
          try rfl
        have HFIN : Hid (setsD (markTo fObject xs k j) (j * 3) [.int (((q : Nat) : Int)), D.mark (intsD xs[j].links) (q + 1), .str (markT (q1))] = markTo fObject xs k (j + 1)) := by
          show _ = _
          rw [← markTo_step fObject_len hjl, HQ.out, hm]
        clear hm
        have HCN : Hid ((((q1 + 1 : Nat) : Int)) = ((k + cntTo fObject xs (j + 1) : Nat) : Int)) := by
          show _ = _
          have h1 := HQ.out
          have h2 := HCS.out
          rw [cntTo_succ hjl, h2]
          omega
        go_wp2_with fail
        exact ⟨⟨j + 1, by omega, by go_num, by first | (rw [← HCN.out]; done) | (rw [← HCN.out]; rfl) | (rw [← HCN.out]; congr 1), by rw [← HFIN.out]; first | exact HP2.out | simpa [setsD] using HP2.out, HC102.out⟩, by simp [intOf]; omega⟩
      · have hjn : j = n := by omega
        subst hjn
        go_wp2_with fail
        go_ret
        exact ⟨by rw [mark_arr, ← markTo_all HN.out]; exact H0.out, HC0.out, by rw [cnt_arr, ← cntTo_all HN.out]; rfl⟩

set_option maxRecDepth 100000 in
set_option maxHeartbeats 3200000 in
theorem heldObjectS_d (xs : List ObjD) (A : Option Addr) (n c k : Nat) (ki : Int) (w : World) (lo hi : Nat) (hh : hi ≤ w.heap.size) (hki : ki = (k : Int)) (h1 : 1 ≤ k) (hk : k + D.cnt (dObjects xs) ≤ 1099511627776) (h : D.rd w lo hi (D.mark (dObjects xs) k) (.slice A n c)) :
    Calls Try.prog 62 #[.slice A n c, .int .i64 ki] w fun e w' => HeldR (dObjects xs) k w e w' := by
  subst hki
  rw [dObjects_flat] at h hk ⊢
  rw [mark_arr] at h
  rw [cnt_arr] at hk
  have hn : xs.length = n := h.len.1.symm
  have hnc := h.len.2.1
  have hc63 := h.len.2.2
  rw [hn] at h hnc ⊢
  have HI := Lib.hid h
  have HK := Lib.hid hk
  have HN := Lib.hid hn
  clear h hk hn
  go_enter Try.func62, Try.ntmps62
  go_wp2_with fail
  go_loopw [1, 5] (fun l i wr => ∃ j : Nat, j ≤ n ∧ i = .int .i64 j ∧ l = .int .i64 ((k + cntTo fObject xs j : Nat) : Int) ∧ Below w.heap.size w wr) (fun _ i _ => n - (intOf i).toNat)
  case atStart => exact ⟨0, Nat.zero_le _, rfl, by rw [cntTo_zero]; rfl, Below.refl _ _⟩
  case round =>
    obtain ⟨j, hj, rfl, rfl, hb⟩ := hrel
    have HB0 := Lib.hid hb
    have hws0 := hb.size
    clear hb
    by_cases hlt : j < n
    · have hjl : j < xs.length := by rw [HN.out]; exact hlt
      obtain ⟨b, o, rfl, _, hbh, hc⟩ := rd_row (HI.out.below HB0.out hh) (by omega) (by omega)
      obtain ⟨q, hq⟩ : ∃ q, k + cntTo fObject xs j = q := ⟨_, rfl⟩
      have hq00 : 1 ≤ q := by omega
      have hqk : q + D.cntL (fObject xs[j]) ≤ 1099511627776 := by
        have h2 := cntTo_le (f := fObject) (xs := xs) (j := j + 1) (by omega)
        rw [cntTo_succ hjl] at h2
        have h3 := HK.out
        omega
      have HQ := Lib.hid hq
      have hcs : D.cntL (fObject xs[j]) = 1 + D.cnt (intsD xs[j].links) + 1 := by
        unfold fObject
        simp only [cntL_cons, cntL_nil, cnt_int, cnt_str]
        try omega
      have HCS := Lib.hid hcs
      rw [hcs] at hqk
      rw [hq]
      have hbw : b < wr.heap.size := by omega
      clear hq hcs
      obtain ⟨q1, hq1⟩ : ∃ q1 : Nat, q1 = q + 1 + D.cnt (intsD xs[j].links) := ⟨_, rfl⟩
      have hqb1 : q1 ≤ 1099511627776 := by omega
      have hqc1 : 1 ≤ q1 := by omega
      have HQ1 := Lib.hid hq1
      have hqe1 : q + 1 + D.cnt (intsD xs[j].links) ≤ q1 := by omega
      have hqf1 : q1 ≤ q + 1 + D.cnt (intsD xs[j].links) := by omega
      clear hq1
      have hm : D.markL (fObject xs[j]) q = [.int (((q : Nat) : Int)), D.mark (intsD xs[j].links) (q + 1), .str (markT (q1))] := by
        unfold fObject
        simp only [markL_cons, markL_nil, mark_int, mark_str, cnt_int, cnt_str]
        try rw [HQ1.out]
        try rfl
      obtain ⟨u0, hg0, hr0⟩ := hc (j * 3) 0 (.int (((q : Nat) : Int))) ((markL_get fObject_len hjl (by omega)).trans (by rw [HQ.out, hm]; rfl))
      simp only [Nat.add_zero, Nat.mul_one] at hg0
      obtain rfl := hr0.int_inv
      obtain ⟨u1, hg1, hr1⟩ := hc (j * 3) 1 (D.mark (intsD xs[j].links) (q + 1)) ((markL_get fObject_len hjl (by omega)).trans (by rw [HQ.out, hm]; rfl))
      obtain ⟨A1, c1, rfl, hr1' ⟩ := mark_rd_inv hr1
      have HR1 := Lib.hid hr1'
      clear hr1'
      obtain ⟨u2, hg2, hr2⟩ := hc (j * 3) 2 (.str (markT (q1))) ((markL_get fObject_len hjl (by omega)).trans (by rw [HQ.out, hm]; rfl))
      obtain ⟨rfl, -⟩ := hr2.str_inv
      have hte2 : (!((markT (q1)).toList == (markT (q1)).toList)) = false := by simp
      clear hm hc
      go_wp2_with fail
      refine (heldIntS_d xs[j].links A1 _ c1 (q + 1) _ _ lo hi (Nat.le_trans hh HB0.out.size) (by first | rfl | (simp; done) | omega) (by omega) (by omega) (HR1.out)).mono ?_
      rintro e w1 ⟨hb1, rfl⟩
      rw [← HQ1.out]
      have HB301 := Lib.hid (bel_tr HB0.out (Nat.le_refl _) hb1)
      have hbw1 : b < w1.heap.size := Nat.lt_of_lt_of_le hbw hb1.size
      have hg2_1 := (hb1.cell (p := ⟨b, o + j * 3 + 2, none⟩) hbw).trans hg2
      clear hb1
      go_wp2_with fail
      have hk2d : w1.drew.heap.size = w1.heap.size := rfl
      go_region_held3 (fun w' => w'.cell? ⟨b, o + j * 3 + 2, none⟩ = some (.string (markT (q1)))) (go_keep)
        (first | (go_at_call 61; refine (markText_d (q1) _ _ (by first | rfl | (simp; done) | omega) (by omega) (by omega)).mono ?_; rintro e w2 ⟨rfl, hb2'⟩; have hb2 := bel_dr2 hb2'; have hgk2 : w2.cell? ⟨b, o + j * 3 + 2, none⟩ = some (.string (markT (q1))) := (hb2.cell hbw1).trans hg2_1; have hltk2 : b < w2.heap.size := Nat.lt_of_lt_of_le hbw1 hb2.size; clear hb2'))
      have HB302 := Lib.hid (bel_tr HB301.out (Nat.le_refl _) hb2)
      have hbw2 : b < w2.heap.size := Nat.lt_of_lt_of_le hbw1 hb2.size
      clear hb2
      have HCN : Hid ((((q1 + 1 : Nat) : Int)) = ((k + cntTo fObject xs (j + 1) : Nat) : Int)) := by
        show _ = _
        have h1 := HQ.out
        have h2 := HCS.out
        rw [cntTo_succ hjl, h2]
        omega
      go_wp2_with fail
      exact ⟨⟨j + 1, by omega, by go_num, by first | (rw [← HCN.out]; done) | (rw [← HCN.out]; rfl) | (rw [← HCN.out]; congr 1), HB302.out⟩, by simp [intOf]; omega⟩
    · have hjn : j = n := by omega
      subst hjn
      go_wp2_with fail
      go_ret
      exact ⟨HB0.out, by rw [cnt_arr, ← cntTo_all HN.out]; rfl⟩

end Go.Proofs.Ytgpjcmplnigmcaa
