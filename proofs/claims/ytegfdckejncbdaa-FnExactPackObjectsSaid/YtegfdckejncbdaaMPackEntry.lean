/-
  The walks of markPackEntryS and heldPackEntryS: numbers and texts are turned into marks; such marks are told. Condition: few elements, small marks.
-/
import Derived.Test.YtegfdckejncbdaaMOp
import Derived.Test.YtegfdckejncbdaaTPackEntry
namespace Go.Proofs.Ytegfdckejncbdaa
set_option linter.unusedVariables false
set_option linter.unusedSimpArgs false
open Go.RowKit

theorem dPackEntrys_flat (xs : List PED) : dPackEntrys xs = .arr 4 xs.length (xs.flatMap fPackEntry) := rfl

set_option maxRecDepth 100000 in
set_option maxHeartbeats 3200000 in
theorem markPackEntryS_d (xs : List PED) (A : Option Addr) (n c k : Nat) (ki : Int) (FF : List Nat) (w : World) (hki : ki = (k : Int)) (h1 : 1 ≤ k) (hk : k + D.cnt (dPackEntrys xs) ≤ 1099511627776) (hF : FF.Nodup) (hlt : ∀ x ∈ FF, x < w.heap.size) (h : D.own w (dPackEntrys xs) FF (.slice A n c)) :
    Calls Try.prog 20 #[.slice A n c, .int .i64 ki] w fun e w' => MarkR (dPackEntrys xs) k FF (.slice A n c) w e w' := by
  subst hki
  rw [dPackEntrys_flat] at h hk ⊢
  have hl := own_len h
  have hn : xs.length = n := hl.1.symm
  have hnc := hl.2.1
  have hc63 := hl.2.2.1
  clear hl
  rw [hn] at h hk hnc ⊢
  rw [cnt_arr] at hk
  rcases Nat.eq_zero_or_pos n with h0 | h0
  · subst h0
    have hx : xs = [] := List.eq_nil_of_length_eq_zero hn
    subst hx
    have HO := Lib.hid h
    clear h hn
    go_enter Try.func20, Try.ntmps20
    go_wp2_with fail
    refine wp_loop_rounds 1 ?_
    rw [rounds_succ]
    go_wp2_with fail
    go_ret
    refine ⟨?_, Chg.refl _ _, ?_⟩
    · rw [mark_arr, List.flatMap_nil, markL_nil]; exact HO.out
    · rw [cnt_arr, List.flatMap_nil, cntL_nil]; rfl
  · obtain ⟨g, o, rfl, hgF⟩ := own_row h h0 (by omega)
    have HO := Lib.hid h
    have HF := Lib.hid hF
    have HLT := Lib.hid hlt
    have HK := Lib.hid hk
    have HN := Lib.hid hn
    clear h hF hlt hk hn
    go_enter Try.func20, Try.ntmps20
    go_wp2_with fail
    go_loopw [1, 5] (fun l i wr => ∃ j : Nat, j ≤ n ∧ i = .int .i64 j ∧ l = .int .i64 ((k + cntTo fPackEntry xs j : Nat) : Int) ∧ D.own wr (.arr 4 n (markTo fPackEntry xs k j)) FF (.slice (some ⟨g, o, none⟩) n c) ∧ Chg w wr FF) (fun _ i _ => n - (intOf i).toNat)
    case atStart => exact ⟨0, Nat.zero_le _, rfl, by rw [cntTo_zero]; rfl, by rw [markTo_zero]; exact HO.out, Chg.refl _ _⟩
    case round =>
      obtain ⟨j, hj, rfl, rfl, hown, hch⟩ := hrel
      have H0 := Lib.hid hown
      have HC0 := Lib.hid hch
      have hws := hch.2.2.2.1
      have HL0 : Hid (∀ x ∈ FF, x < wr.heap.size) := fun x hx => Nat.lt_of_lt_of_le (HLT.out x hx) hws
      clear hown hch
      by_cases hlt : j < n
      · have hjl : j < xs.length := by rw [HN.out]; exact hlt
        obtain ⟨q, hq⟩ : ∃ q, k + cntTo fPackEntry xs j = q := ⟨_, rfl⟩
        have hq00 : 1 ≤ q := by omega
        have hqk : q + D.cntL (fPackEntry xs[j]) ≤ 1099511627776 := by
          have h2 := cntTo_le (f := fPackEntry) (xs := xs) (j := j + 1) (by omega)
          rw [cntTo_succ hjl] at h2
          have h3 := HK.out
          omega
        have HQ := Lib.hid hq
        have hcs : D.cntL (fPackEntry xs[j]) = 1 + D.cnt (intsD xs[j].links) + 1 + D.cnt (dOps xs[j].ops) := by
          unfold fPackEntry
          simp only [cntL_cons, cntL_nil, cnt_int, cnt_str]
          try omega
        have HCS := Lib.hid hcs
        rw [hcs] at hqk
        rw [hq]
        clear hq hcs
        obtain ⟨⟨u0, hg0⟩, hf0, -, hp0⟩ := own_put H0.out HF.out (p := j * 4) (i := 0) (markTo_get fPackEntry_len hjl (by omega)) (.inl ⟨_, rfl⟩) (.int (((q : Nat) : Int))) (.int .i64 (((q : Nat) : Int))) (fun W => D.own.int W _)
        simp only [Nat.add_zero, Nat.mul_one] at hg0 hf0 hp0
        have HP0 := Lib.hid hp0
        clear hp0
        have HC100 := Lib.hid (HC0.out.set hgF (o + j * 4) (.int .i64 (((q : Nat) : Int))))
        have HL100 : Hid (∀ x ∈ FF, x < (wr.setCell ⟨g, o + j * 4, none⟩ (.int .i64 (((q : Nat) : Int)))).heap.size) := fun x hx => by simpa [World.setCell] using HL0.out x hx
        obtain ⟨A1, c1, F1, hs1, ho1, hn1, hsub1, -, hgn1, hre1⟩ := own_arr HP0.out HF.out (p := j * 4) (i := 1) ((List.getElem?_set_ne (by omega)).trans (markTo_get fPackEntry_len hjl (by omega)))
        have HO1 := Lib.hid ho1
        have HS1 := Lib.hid hsub1
        have HR1 := Lib.hid hre1
        have HND1 := Lib.hid hn1
        clear ho1 hsub1 hre1 hn1 hgn1
        go_wp2_with fail
        refine (markIntS_d xs[j].links A1 _ c1 (q + 1) _ F1 _ (by first | rfl | (simp; done) | omega) (by omega) (by omega) HND1.out (fun x hx => HL100.out x (HS1.out x hx)) HO1.out).mono ?_
        rintro e w1 ⟨ho1, hch1, rfl⟩
        have HC101 := Lib.hid (HC100.out.tr (hch1.more HS1.out))
        have HL101 : Hid (∀ x ∈ FF, x < w1.heap.size) := fun x hx => Nat.lt_of_lt_of_le (HL100.out x hx) hch1.2.2.2.1
        have HP1 := Lib.hid (HR1.out w1 _ hch1 HL100.out ho1)
        clear ho1 hch1
        obtain ⟨q1, hq1⟩ : ∃ q1 : Nat, q1 = q + 1 + D.cnt (intsD xs[j].links) := ⟨_, rfl⟩
        rw [← hq1]
        have hqb1 : q1 ≤ 1099511627776 := by omega
        have hqc1 : 1 ≤ q1 := by omega
        have HQ1 := Lib.hid hq1
        have hqe1 : q + 1 + D.cnt (intsD xs[j].links) ≤ q1 := by omega
        have hqf1 : q1 ≤ q + 1 + D.cnt (intsD xs[j].links) := by omega
        clear hq1
        obtain ⟨⟨u2, hg2⟩, hf2, -, hp2⟩ := own_put HP1.out HF.out (p := j * 4) (i := 2) ((List.getElem?_set_ne (by omega)).trans ((List.getElem?_set_ne (by omega)).trans (markTo_get fPackEntry_len hjl (by omega)))) (.inl ⟨_, rfl⟩) (.int (((q1 : Nat) : Int))) (.int .i64 (((q1 : Nat) : Int))) (fun W => D.own.int W _)
        have HP2 := Lib.hid hp2
        clear hp2
        have HC102 := Lib.hid (HC101.out.set hgF (o + j * 4 + 2) (.int .i64 (((q1 : Nat) : Int))))
        have HL102 : Hid (∀ x ∈ FF, x < (w1.setCell ⟨g, o + j * 4 + 2, none⟩ (.int .i64 (((q1 : Nat) : Int)))).heap.size) := fun x hx => by simpa [World.setCell] using HL101.out x hx
        obtain ⟨A3, c3, F3, hs3, ho3, hn3, hsub3, -, hgn3, hre3⟩ := own_arr HP2.out HF.out (p := j * 4) (i := 3) ((List.getElem?_set_ne (by omega)).trans ((List.getElem?_set_ne (by omega)).trans ((List.getElem?_set_ne (by omega)).trans (markTo_get fPackEntry_len hjl (by omega)))))
        have HO3 := Lib.hid ho3
        have HS3 := Lib.hid hsub3
        have HR3 := Lib.hid hre3
        have HND3 := Lib.hid hn3
        clear ho3 hsub3 hre3 hn3 hgn3
        go_wp2_with fail
        refine (markOpS_d xs[j].ops A3 _ c3 (q1 + 1) _ F3 _ (by first | rfl | (simp; done) | omega) (by omega) (by omega) HND3.out (fun x hx => HL102.out x (HS3.out x hx)) HO3.out).mono ?_
        rintro e w3 ⟨ho3, hch3, rfl⟩
        have HC103 := Lib.hid (HC102.out.tr (hch3.more HS3.out))
        have HL103 : Hid (∀ x ∈ FF, x < w3.heap.size) := fun x hx => Nat.lt_of_lt_of_le (HL102.out x hx) hch3.2.2.2.1
        have HP3 := Lib.hid (HR3.out w3 _ hch3 HL102.out ho3)
        clear ho3 hch3
        obtain ⟨q2, hq2⟩ : ∃ q2 : Nat, q2 = q1 + 1 + D.cnt (dOps xs[j].ops) := ⟨_, rfl⟩
        rw [← hq2]
        have hqb2 : q2 ≤ 1099511627776 := by omega
        have hqc2 : 1 ≤ q2 := by omega
        have HQ2 := Lib.hid hq2
        have hqe2 : q1 + 1 + D.cnt (dOps xs[j].ops) ≤ q2 := by omega
        have hqf2 : q2 ≤ q1 + 1 + D.cnt (dOps xs[j].ops) := by omega
        clear hq2
        have hm : D.markL (fPackEntry xs[j]) q = [.int (((q : Nat) : Int)), D.mark (intsD xs[j].links) (q + 1), .int (((q1 : Nat) : Int)), D.mark (dOps xs[j].ops) (q1 + 1)] := by
          unfold fPackEntry
          simp only [markL_cons, markL_nil, mark_int, mark_str, cnt_int, cnt_str]
          try rw [HQ2.out]
          try rw [HQ1.out]
          try rfl
        have HFIN : Hid (setsD (markTo fPackEntry xs k j) (j * 4) [.int (((q : Nat) : Int)), D.mark (intsD xs[j].links) (q + 1), .int (((q1 : Nat) : Int)), D.mark (dOps xs[j].ops) (q1 + 1)] = markTo fPackEntry xs k (j + 1)) := by
          show _ = _
          rw [← markTo_step fPackEntry_len hjl, HQ.out, hm]
        clear hm
        have HCN : Hid ((((q2 : Nat) : Int)) = ((k + cntTo fPackEntry xs (j + 1) : Nat) : Int)) := by
          show _ = _
          have h1 := HQ.out
          have h2 := HCS.out
          rw [cntTo_succ hjl, h2]
          omega
        go_wp2_with fail
        exact ⟨⟨j + 1, by omega, by go_num, by first | (rw [← HCN.out]; done) | (rw [← HCN.out]; rfl) | (rw [← HCN.out]; congr 1), by rw [← HFIN.out]; first | exact HP3.out | simpa [setsD] using HP3.out, HC103.out⟩, by simp [intOf]; omega⟩
      · have hjn : j = n := by omega
        subst hjn
        go_wp2_with fail
        go_ret
        exact ⟨by rw [mark_arr, ← markTo_all HN.out]; exact H0.out, HC0.out, by rw [cnt_arr, ← cntTo_all HN.out]; rfl⟩

end Go.Proofs.Ytegfdckejncbdaa
