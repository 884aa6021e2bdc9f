/-
  The walks of markPartS and heldPartS: numbers and texts are turned into marks; such marks are told. Condition: few elements, small marks.
  The walks of markTxnS and heldTxnS: numbers and texts are turned into marks; such marks are told. Condition: few elements, small marks.
  Plain words for a law about results with depth: intervals of blocks, what a mark leaves of other data, and how many numbers a datum holds. No condition.
  The walk of markCoordinator: nothing but the coordinator's own blocks turns. Condition: few elements.
-/
import Derived.Test.YtgbkjfhmbchiiaaM16
import Derived.Test.YtgbkjfhmbchiiaaM4
import Derived.Test.YtgbkjfhmbchiiaaM5
import Derived.Test.YtgbkjfhmbchiiaaM8
namespace Go.Proofs.Ytgbkjfhmbchiiaa
set_option linter.unusedVariables false
set_option linter.unusedSimpArgs false
open Go.RowKit

theorem dParts_flat (xs : List PartD) : dParts xs = .arr 2 xs.length (xs.flatMap fPart) := rfl

set_option maxRecDepth 100000 in
set_option maxHeartbeats 3200000 in
theorem markPartS_d (xs : List PartD) (A : Option Addr) (n c k : Nat) (ki : Int) (FF : List Nat) (w : World) (hki : ki = (k : Int)) (h1 : 1 ≤ k) (hk : k + D.cnt (dParts xs) ≤ 1099511627776) (hF : FF.Nodup) (hlt : ∀ x ∈ FF, x < w.heap.size) (h : D.own w (dParts xs) FF (.slice A n c)) :
    Calls Try.prog 65 #[.slice A n c, .int .i64 ki] w fun e w' => MarkR (dParts xs) k FF (.slice A n c) w e w' := by
  subst hki
  rw [dParts_flat] at h hk ⊢
  have hl := own_len h
  have hn : xs.length = n := hl.1.symm
  have hnc := hl.2.1
  have hc63 := hl.2.2.1
  clear hl
  rw [hn] at h hk hnc ⊢
  rw [cnt_arr] at hk
  rcases Nat.eq_zero_or_pos n with h0 | h0
  · subst h0
    have hx : xs = [] := List.eq_nil_of_length_eq_zero hn
    subst hx
    have HO := Lib.hid h
    clear h hn
    go_enter Try.func65, Try.ntmps65
    go_wp2_with fail
    refine wp_loop_rounds 1 ?_
    rw [rounds_succ]
    go_wp2_with fail
    go_ret
    refine ⟨?_, Chg.refl _ _, ?_⟩
    · rw [mark_arr, List.flatMap_nil, markL_nil]; exact HO.out
    · rw [cnt_arr, List.flatMap_nil, cntL_nil]; rfl
  · obtain ⟨g, o, rfl, hgF⟩ := own_row h h0 (by omega)
    have HO := Lib.hid h
    have HF := Lib.hid hF
    have HLT := Lib.hid hlt
    have HK := Lib.hid hk
    have HN := Lib.hid hn
    clear h hF hlt hk hn
    go_enter Try.func65, Try.ntmps65
    go_wp2_with fail
    go_loopw [1, 5] (fun l i wr => ∃ j : Nat, j ≤ n ∧ i = .int .i64 j ∧ l = .int .i64 ((k + cntTo fPart xs j : Nat) : Int) ∧ D.own wr (.arr 2 n (markTo fPart xs k j)) FF (.slice (some ⟨g, o, none⟩) n c) ∧ Chg w wr FF) (fun _ i _ => n - (intOf i).toNat)
    case atStart => exact ⟨0, Nat.zero_le _, rfl, by rw [cntTo_zero]; rfl, by rw [markTo_zero]; exact HO.out, Chg.refl _ _⟩
    case round =>
      obtain ⟨j, hj, rfl, rfl, hown, hch⟩ := hrel
      have H0 := Lib.hid hown
      have HC0 := Lib.hid hch
      have hws := hch.2.2.2.1
      have HL0 : Hid (∀ x ∈ FF, x < wr.heap.size) := fun x hx => Nat.lt_of_lt_of_le (HLT.out x hx) hws
      clear hown hch
      by_cases hlt : j < n
      · have hjl : j < xs.length := by rw [HN.out]; exact hlt
        obtain ⟨q, hq⟩ : ∃ q, k + cntTo fPart xs j = q := ⟨_, rfl⟩
        have hq00 : 1 ≤ q := by omega
        have hqk : q + D.cntL (fPart xs[j]) ≤ 1099511627776 := by
          have h2 := cntTo_le (f := fPart) (xs := xs) (j := j + 1) (by omega)
          rw [cntTo_succ hjl] at h2
          have h3 := HK.out
          omega
        have HQ := Lib.hid hq
        have hcs : D.cntL (fPart xs[j]) = 1 + D.cnt (dUpdates xs[j].us) := by
          unfold fPart
          simp only [cntL_cons, cntL_nil, cnt_int, cnt_str]
          try omega
        have HCS := Lib.hid hcs
        rw [hcs] at hqk
        rw [hq]
        clear hq hcs
        obtain ⟨⟨u0, hg0⟩, hf0, -, hp0⟩ := own_put H0.out HF.out (p := j * 2) (i := 0) (markTo_get fPart_len hjl (by omega)) (.inl ⟨_, rfl⟩) (.int (((q : Nat) : Int))) (.int .i64 (((q : Nat) : Int))) (fun W => D.own.int W _)
        simp only [Nat.add_zero, Nat.mul_one] at hg0 hf0 hp0
        have HP0 := Lib.hid hp0
        clear hp0
        have HC100 := Lib.hid (HC0.out.set hgF (o + j * 2) (.int .i64 (((q : Nat) : Int))))
        have HL100 : Hid (∀ x ∈ FF, x < (wr.setCell ⟨g, o + j * 2, none⟩ (.int .i64 (((q : Nat) : Int)))).heap.size) := fun x hx => by simpa [World.setCell] using HL0.out x hx
        obtain ⟨A1, c1, F1, hs1, ho1, hn1, hsub1, -, hgn1, hre1⟩ := own_arr HP0.out HF.out (p := j * 2) (i := 1) ((List.getElem?_set_ne (by omega)).trans (markTo_get fPart_len hjl (by omega)))
        have HO1 := Lib.hid ho1
        have HS1 := Lib.hid hsub1
        have HR1 := Lib.hid hre1
        have HND1 := Lib.hid hn1
        clear ho1 hsub1 hre1 hn1 hgn1
        go_wp2_with fail
        refine (markUpdateS_d xs[j].us A1 _ c1 (q + 1) _ F1 _ (by first | rfl | (simp; done) | omega) (by omega) (by omega) HND1.out (fun x hx => HL100.out x (HS1.out x hx)) HO1.out).mono ?_
        rintro e w1 ⟨ho1, hch1, rfl⟩
        have HC101 := Lib.hid (HC100.out.tr (hch1.more HS1.out))
        have HL101 : Hid (∀ x ∈ FF, x < w1.heap.size) := fun x hx => Nat.lt_of_lt_of_le (HL100.out x hx) hch1.2.2.2.1
        have HP1 := Lib.hid (HR1.out w1 _ hch1 HL100.out ho1)
        clear ho1 hch1
        obtain ⟨q1, hq1⟩ : ∃ q1 : Nat, q1 = q + 1 + D.cnt (dUpdates xs[j].us) := ⟨_, rfl⟩
        rw [← hq1]
        have hqb1 : q1 ≤ 1099511627776 := by omega
        have hqc1 : 1 ≤ q1 := by omega
        have HQ1 := Lib.hid hq1
        have hqe1 : q + 1 + D.cnt (dUpdates xs[j].us) ≤ q1 := by omega
        have hqf1 : q1 ≤ q + 1 + D.cnt (dUpdates xs[j].us) := by omega
        clear hq1
        have hm : D.markL (fPart xs[j]) q = [.int (((q : Nat) : Int)), D.mark (dUpdates xs[j].us) (q + 1)] := by
          unfold fPart
          simp only [markL_cons, markL_nil, mark_int, mark_str, cnt_int, cnt_str]
          try rw [HQ1.out]
          try rfl
        have HFIN : Hid (setsD (markTo fPart xs k j) (j * 2) [.int (((q : Nat) : Int)), D.mark (dUpdates xs[j].us) (q + 1)] = markTo fPart xs k (j + 1)) := by
          show _ = _
          rw [← markTo_step fPart_len hjl, HQ.out, hm]
        clear hm
        have HCN : Hid ((((q1 : Nat) : Int)) = ((k + cntTo fPart xs (j + 1) : Nat) : Int)) := by
          show _ = _
          have h1 := HQ.out
          have h2 := HCS.out
          rw [cntTo_succ hjl, h2]
          omega
        go_wp2_with fail
        exact ⟨⟨j + 1, by omega, by go_num, by first | (rw [← HCN.out]; done) | (rw [← HCN.out]; rfl) | (rw [← HCN.out]; congr 1), by rw [← HFIN.out]; first | exact HP1.out | simpa [setsD] using HP1.out, HC101.out⟩, by simp [intOf]; omega⟩
      · have hjn : j = n := by omega
        subst hjn
        go_wp2_with fail
        go_ret
        exact ⟨by rw [mark_arr, ← markTo_all HN.out]; exact H0.out, HC0.out, by rw [cnt_arr, ← cntTo_all HN.out]; rfl⟩

end Go.Proofs.Ytgbkjfhmbchiiaa

namespace Go.Proofs.Ytgbkjfhmbchiiaa
set_option linter.unusedVariables false
set_option linter.unusedSimpArgs false
open Go.RowKit

theorem dTxns_flat (xs : List TxnD) : dTxns xs = .arr 3 xs.length (xs.flatMap fTxn) := rfl

set_option maxRecDepth 100000 in
set_option maxHeartbeats 3200000 in
theorem markTxnS_d (xs : List TxnD) (A : Option Addr) (n c k : Nat) (ki : Int) (FF : List Nat) (w : World) (hki : ki = (k : Int)) (h1 : 1 ≤ k) (hk : k + D.cnt (dTxns xs) ≤ 1099511627776) (hF : FF.Nodup) (hlt : ∀ x ∈ FF, x < w.heap.size) (h : D.own w (dTxns xs) FF (.slice A n c)) :
    Calls Try.prog 44 #[.slice A n c, .int .i64 ki] w fun e w' => MarkR (dTxns xs) k FF (.slice A n c) w e w' := by
  subst hki
  rw [dTxns_flat] at h hk ⊢
  have hl := own_len h
  have hn : xs.length = n := hl.1.symm
  have hnc := hl.2.1
  have hc63 := hl.2.2.1
  clear hl
  rw [hn] at h hk hnc ⊢
  rw [cnt_arr] at hk
  rcases Nat.eq_zero_or_pos n with h0 | h0
  · subst h0
    have hx : xs = [] := List.eq_nil_of_length_eq_zero hn
    subst hx
    have HO := Lib.hid h
    clear h hn
    go_enter Try.func44, Try.ntmps44
    go_wp2_with fail
    refine wp_loop_rounds 1 ?_
    rw [rounds_succ]
    go_wp2_with fail
    go_ret
    refine ⟨?_, Chg.refl _ _, ?_⟩
    · rw [mark_arr, List.flatMap_nil, markL_nil]; exact HO.out
    · rw [cnt_arr, List.flatMap_nil, cntL_nil]; rfl
  · obtain ⟨g, o, rfl, hgF⟩ := own_row h h0 (by omega)
    have HO := Lib.hid h
    have HF := Lib.hid hF
    have HLT := Lib.hid hlt
    have HK := Lib.hid hk
    have HN := Lib.hid hn
    clear h hF hlt hk hn
    go_enter Try.func44, Try.ntmps44
    go_wp2_with fail
    go_loopw [1, 5] (fun l i wr => ∃ j : Nat, j ≤ n ∧ i = .int .i64 j ∧ l = .int .i64 ((k + cntTo fTxn xs j : Nat) : Int) ∧ D.own wr (.arr 3 n (markTo fTxn xs k j)) FF (.slice (some ⟨g, o, none⟩) n c) ∧ Chg w wr FF) (fun _ i _ => n - (intOf i).toNat)
    case atStart => exact ⟨0, Nat.zero_le _, rfl, by rw [cntTo_zero]; rfl, by rw [markTo_zero]; exact HO.out, Chg.refl _ _⟩
    case round =>
      obtain ⟨j, hj, rfl, rfl, hown, hch⟩ := hrel
      have H0 := Lib.hid hown
      have HC0 := Lib.hid hch
      have hws := hch.2.2.2.1
      have HL0 : Hid (∀ x ∈ FF, x < wr.heap.size) := fun x hx => Nat.lt_of_lt_of_le (HLT.out x hx) hws
      clear hown hch
      by_cases hlt : j < n
      · have hjl : j < xs.length := by rw [HN.out]; exact hlt
        obtain ⟨q, hq⟩ : ∃ q, k + cntTo fTxn xs j = q := ⟨_, rfl⟩
        have hq00 : 1 ≤ q := by omega
        have hqk : q + D.cntL (fTxn xs[j]) ≤ 1099511627776 := by
          have h2 := cntTo_le (f := fTxn) (xs := xs) (j := j + 1) (by omega)
          rw [cntTo_succ hjl] at h2
          have h3 := HK.out
          omega
        have HQ := Lib.hid hq
        have hcs : D.cntL (fTxn xs[j]) = D.cnt (dParts xs[j].parts) + D.cnt (intsD xs[j].votes) + 1 := by
          unfold fTxn
          simp only [cntL_cons, cntL_nil, cnt_int, cnt_str]
          try omega
        have HCS := Lib.hid hcs
        rw [hcs] at hqk
        rw [hq]
        clear hq hcs
        obtain ⟨A0, c0, F0, hs0, ho0, hn0, hsub0, -, hgn0, hre0⟩ := own_arr H0.out HF.out (p := j * 3) (i := 0) (markTo_get fTxn_len hjl (by omega))
        simp only [Nat.add_zero, Nat.mul_one] at hs0 hre0
        have HO0 := Lib.hid ho0
        have HS0 := Lib.hid hsub0
        have HR0 := Lib.hid hre0
        have HND0 := Lib.hid hn0
        clear ho0 hsub0 hre0 hn0 hgn0
        go_wp2_with fail
        refine (markPartS_d xs[j].parts A0 _ c0 (q) _ F0 _ (by first | rfl | (simp; done) | omega) (by omega) (by omega) HND0.out (fun x hx => HL0.out x (HS0.out x hx)) HO0.out).mono ?_
        rintro e w0 ⟨ho0, hch0, rfl⟩
        have HC100 := Lib.hid (HC0.out.tr (hch0.more HS0.out))
        have HL100 : Hid (∀ x ∈ FF, x < w0.heap.size) := fun x hx => Nat.lt_of_lt_of_le (HL0.out x hx) hch0.2.2.2.1
        have HP0 := Lib.hid (HR0.out w0 _ hch0 HL0.out ho0)
        clear ho0 hch0
        obtain ⟨q1, hq1⟩ : ∃ q1 : Nat, q1 = q + D.cnt (dParts xs[j].parts) := ⟨_, rfl⟩
        rw [← hq1]
        have hqb1 : q1 ≤ 1099511627776 := by omega
        have hqc1 : 1 ≤ q1 := by omega
        have HQ1 := Lib.hid hq1
        have hqe1 : q + D.cnt (dParts xs[j].parts) ≤ q1 := by omega
        have hqf1 : q1 ≤ q + D.cnt (dParts xs[j].parts) := by omega
        clear hq1
        obtain ⟨A1, c1, F1, hs1, ho1, hn1, hsub1, -, hgn1, hre1⟩ := own_arr HP0.out HF.out (p := j * 3) (i := 1) ((List.getElem?_set_ne (by omega)).trans (markTo_get fTxn_len hjl (by omega)))
        have HO1 := Lib.hid ho1
        have HS1 := Lib.hid hsub1
        have HR1 := Lib.hid hre1
        have HND1 := Lib.hid hn1
        clear ho1 hsub1 hre1 hn1 hgn1
        go_wp2_with fail
        refine (markIntS_d xs[j].votes A1 _ c1 (q1) _ F1 _ (by first | rfl | (simp; done) | omega) (by omega) (by omega) HND1.out (fun x hx => HL100.out x (HS1.out x hx)) HO1.out).mono ?_
        rintro e w1 ⟨ho1, hch1, rfl⟩
        have HC101 := Lib.hid (HC100.out.tr (hch1.more HS1.out))
        have HL101 : Hid (∀ x ∈ FF, x < w1.heap.size) := fun x hx => Nat.lt_of_lt_of_le (HL100.out x hx) hch1.2.2.2.1
        have HP1 := Lib.hid (HR1.out w1 _ hch1 HL100.out ho1)
        clear ho1 hch1
        obtain ⟨q2, hq2⟩ : ∃ q2 : Nat, q2 = q1 + D.cnt (intsD xs[j].votes) := ⟨_, rfl⟩
        rw [← hq2]
        have hqb2 : q2 ≤ 1099511627776 := by omega
        have hqc2 : 1 ≤ q2 := by omega
        have HQ2 := Lib.hid hq2
        have hqe2 : q1 + D.cnt (intsD xs[j].votes) ≤ q2 := by omega
        have hqf2 : q2 ≤ q1 + D.cnt (intsD xs[j].votes) := by omega
        clear hq2
        obtain ⟨⟨u2, hg2⟩, hf2, -, hp2⟩ := own_put HP1.out HF.out (p := j * 3) (i := 2) ((List.getElem?_set_ne (by omega)).trans ((List.getElem?_set_ne (by omega)).trans (markTo_get fTxn_len hjl (by omega)))) (.inl ⟨_, rfl⟩) (.int (((q2 : Nat) : Int))) (.int .i64 (((q2 : Nat) : Int))) (fun W => D.own.int W _)
        have HP2 := Lib.hid hp2
        clear hp2
        have HC102 := Lib.hid (HC101.out.set hgF (o + j * 3 + 2) (.int .i64 (((q2 : Nat) : Int))))
        have HL102 : Hid (∀ x ∈ FF, x < (w1.setCell ⟨g, o + j * 3 + 2, none⟩ (.int .i64 (((q2 : Nat) : Int)))).heap.size) := fun x hx => by simpa [World.setCell] using HL101.out x hx
        have hm : D.markL (fTxn xs[j]) q = [D.mark (dParts xs[j].parts) (q), D.mark (intsD xs[j].votes) (q1), .int (((q2 : Nat) : Int))] := by
          unfold fTxn
          simp only [markL_cons, markL_nil, mark_int, mark_str, cnt_int, cnt_str]
          try rw [HQ2.out]
          try rw [HQ1.out]
          try rfl
        have HFIN : Hid (setsD (markTo fTxn xs k j) (j * 3) [D.mark (dParts xs[j].parts) (q), D.mark (intsD xs[j].votes) (q1), .int (((q2 : Nat) : Int))] = markTo fTxn xs k (j + 1)) := by
          show _ = _
          rw [← markTo_step fTxn_len hjl, HQ.out, hm]
        clear hm
        have HCN : Hid ((((q2 + 1 : Nat) : Int)) = ((k + cntTo fTxn xs (j + 1) : Nat) : Int)) := by
          show _ = _
          have h1 := HQ.out
          have h2 := HCS.out
          rw [cntTo_succ hjl, h2]
          omega
        go_wp2_with fail
        exact ⟨⟨j + 1, by omega, by go_num, by first | (rw [← HCN.out]; done) | (rw [← HCN.out]; rfl) | (rw [← HCN.out]; congr 1), by rw [← HFIN.out]; first | exact HP2.out | simpa [setsD] using HP2.out, HC102.out⟩, by simp [intOf]; omega⟩
      · have hjn : j = n := by omega
        subst hjn
        go_wp2_with fail
        go_ret
        exact ⟨by rw [mark_arr, ← markTo_all HN.out]; exact H0.out, HC0.out, by rw [cnt_arr, ← cntTo_all HN.out]; rfl⟩

end Go.Proofs.Ytgbkjfhmbchiiaa

namespace Go.Proofs.Ytgbkjfhmbchiiaa
set_option linter.unusedVariables false
set_option linter.unusedSimpArgs false
open Go.RowKit

/-- a value in memory of its own, in blocks from lo on and below hi -/
def OwnI (w : World) (lo hi : Nat) (d : D) (v : Value) : Prop := ∃ F : List Nat, F.Nodup ∧ (∀ g ∈ F, lo ≤ g ∧ g < hi) ∧ D.own w d F v
section
variable {w w' : World} {lo hi lo' hi' C : Nat} {d : D} {v : Value} {F : List Nat}
theorem Own.ival (h : Own w lo d v) : OwnI w lo w.heap.size d v := h
theorem OwnI.rd (h : OwnI w lo hi d v) : D.rd w lo hi d v := by
  obtain ⟨F, _, h2, h3⟩ := h
  exact D.own.rd d F v h2 h3
theorem OwnI.below (h : OwnI w lo hi d v) (hb : Below C w w') (hC : hi ≤ C) : OwnI w' lo hi d v := by
  obtain ⟨F, h1, h2, h3⟩ := h
  exact ⟨F, h1, h2, D.own.keep d F v (fun g hg => hb.block g (Nat.lt_of_lt_of_le (h2 g hg).2 hC)) h3⟩
theorem OwnI.chg (h : OwnI w lo hi d v) (hc : Chg w w' F) (hhi : hi ≤ w.heap.size) (hF : ∀ g ∈ F, g < lo ∨ hi ≤ g) : OwnI w' lo hi d v := by
  obtain ⟨G, h1, h2, h3⟩ := h
  refine ⟨G, h1, h2, D.own.keep d G v (fun g hg => hc.2.2.2.2 g (Nat.lt_of_lt_of_le (h2 g hg).2 hhi) (fun hm => ?_)) h3⟩
  have := hF g hm
  have := h2 g hg
  omega
theorem D.rd.chg (h : D.rd w lo hi d v) (hc : Chg w w' F) (hhi : hi ≤ w.heap.size) (hF : ∀ g ∈ F, g < lo ∨ hi ≤ g) : D.rd w' lo hi d v :=
  D.rd.keep (fun p g1 g2 => World.cell?_of_block (hc.2.2.2.2 p.block (Nat.lt_of_lt_of_le g2 hhi) (fun hm => by have := hF _ hm; omega))) (Nat.le_refl _) (Nat.le_refl _) _ _ h
end

theorem cnt_flat {α : Type} (f : α → List D) (h : ∀ x, D.cntL (f x) ≤ 3 + 3 * D.szL (f x)) (xs : List α) : D.cntL (xs.flatMap f) ≤ 3 * xs.length + 3 * D.szL (xs.flatMap f) := by
  induction xs with
  | nil => rw [List.flatMap_nil, cntL_nil]; omega
  | cons x xs ih =>
    rw [List.flatMap_cons, cntL_app, szL_app, List.length_cons]
    have := h x
    omega
theorem cnt_arr_le {α : Type} (f : α → List D) (h : ∀ x, D.cntL (f x) ≤ 3 + 3 * D.szL (f x)) (m : Nat) (xs : List α) : D.cnt (.arr m xs.length (xs.flatMap f)) ≤ 3 * D.sz (.arr m xs.length (xs.flatMap f)) := by
  rw [cnt_arr, sz_arr]
  have := cnt_flat f h xs
  omega
theorem cnt_ints (xs : List Int) : D.cnt (intsD xs) = xs.length := by
  unfold intsD
  rw [cnt_arr]
  induction xs with
  | nil => rw [List.map_nil, cntL_nil]; rfl
  | cons x xs ih => rw [List.map_cons, cntL_cons, cnt_int, ih, List.length_cons]; omega

end Go.Proofs.Ytgbkjfhmbchiiaa

namespace Go.Proofs.Ytgbkjfhmbchiiaa
set_option linter.unusedVariables false
set_option linter.unusedSimpArgs false
open Go.RowKit

theorem cnt_dUpdates (xs : List Upd) : D.cnt (dUpdates xs) ≤ 3 * D.sz (dUpdates xs) :=
  cnt_arr_le fUpdate (fun x => by unfold fUpdate; simp only [cntL_cons, cntL_nil, cnt_int]; omega) 3 xs
theorem cnt_dParts (xs : List PartD) : D.cnt (dParts xs) ≤ 3 * D.sz (dParts xs) :=
  cnt_arr_le fPart (fun x => by
    rw [szL_fPart]
    unfold fPart
    simp only [cntL_cons, cntL_nil, cnt_int]
    have h1 := cnt_dUpdates x.us
    omega) 2 xs
theorem cnt_dTxns (xs : List TxnD) : D.cnt (dTxns xs) ≤ 3 * D.sz (dTxns xs) :=
  cnt_arr_le fTxn (fun x => by
    rw [szL_fTxn]
    unfold fTxn
    simp only [cntL_cons, cntL_nil, cnt_int, cnt_ints]
    have h1 := cnt_dParts x.parts
    have h2 := sz_ints x.votes
    omega) 3 xs

/-- a struct's fields in blocks of their own, from lo on and below hi -/
def OwnLI (w : World) (lo hi : Nat) (ds : List D) (vs : List Value) : Prop := ∃ F : List Nat, F.Nodup ∧ (∀ g ∈ F, lo ≤ g ∧ g < hi) ∧ D.ownL w ds F vs
theorem OwnLI.below {w w' : World} {lo hi C : Nat} {ds : List D} {vs : List Value} (h : OwnLI w lo hi ds vs) (hb : Below C w w') (hC : hi ≤ C) : OwnLI w' lo hi ds vs := by
  obtain ⟨F, h1, h2, h3⟩ := h
  exact ⟨F, h1, h2, D.ownL.keep ds F vs (fun g hg => hb.block g (Nat.lt_of_lt_of_le (h2 g hg).2 hC)) h3⟩
theorem rdL2 {w : World} {lo hi : Nat} {d0 d1 : D} {v0 v1 : Value} (this : D.rdL w lo hi [d0, d1] [v0, v1]) : D.rd w lo hi d0 v0 ∧ D.rd w lo hi d1 v1 := by
  unfold D.rdL at this
  obtain ⟨_, _, e, g0, this⟩ := this
  unfold D.rdL at this
  obtain ⟨_, _, e2, g1, _⟩ := this
  injection e with e3 e4
  subst e3 e4
  injection e2 with e5 e6
  subst e5
  exact ⟨g0, g1⟩
theorem OwnLI.rd2 {w : World} {lo hi : Nat} {d0 d1 : D} {v0 v1 : Value} (h : OwnLI w lo hi [d0, d1] [v0, v1]) : D.rd w lo hi d0 v0 ∧ D.rd w lo hi d1 v1 := by
  obtain ⟨F, _, h2, h3⟩ := h
  exact rdL2 (D.ownL.rd _ F _ h2 h3)
theorem ownL_two {w : World} {d0 d1 : D} {v0 v1 : Value} {F : List Nat} (h : D.ownL w [d0, d1] F [v0, v1]) : ∃ F1 F2, F = F1 ++ F2 ∧ D.own w d0 F1 v0 ∧ D.own w d1 F2 v1 := by
  unfold D.ownL at h
  obtain ⟨a, r, F1, G, e, rfl, h0, h⟩ := h
  unfold D.ownL at h
  obtain ⟨b, r2, F2, G2, e2, rfl, h1, h⟩ := h
  unfold D.ownL at h
  obtain ⟨rfl, rfl⟩ := h
  injection e with e3 e4
  subst e3 e4
  injection e2 with e5 e6
  subst e5
  exact ⟨F1, F2, by simp, h0, h1⟩

set_option maxRecDepth 100000 in
set_option maxHeartbeats 1600000 in
theorem markCoord_d (ts : List TxnD) (os : List Int) (A0 : Option Addr) (n0 c0 : Nat) (A1 : Option Addr) (n1 c1 : Nat) (lo hi : Nat) (w : World) (hh : hi ≤ w.heap.size) (hk : D.cnt (dTxns ts) + D.cnt (intsD os) ≤ 8000000) (h : OwnLI w lo hi [dTxns ts, intsD os] [.slice A0 n0 c0, .slice A1 n1 c1]) :
    Calls Try.prog 23 #[.agg #[.slice A0 n0 c0, .slice A1 n1 c1], .int .i64 1] w fun e w' => ∃ (q : Nat) (F : List Nat), (∀ g ∈ F, lo ≤ g ∧ g < hi) ∧ Chg w w' F ∧ e = .returned (.int .i64 (q : Int)) ∧ q ≤ 8000001 := by
  obtain ⟨F, hF, hb, ho⟩ := h
  obtain ⟨F1, F2, rfl, h0, h1⟩ := ownL_two ho
  have hnd := List.nodup_append.1 hF
  have HC0 : Hid (Chg w (w.alloc (.cells #[.slice A0 n0 c0, .slice A1 n1 c1] 26)) (F1 ++ F2)) := Lib.hid ((Chg.refl w _).bel ((Below.refl _ _).alloc (Nat.le_refl _) _))
  have HX0 : Hid ((w.alloc (.cells #[.slice A0 n0 c0, .slice A1 n1 c1] 26)).heap[w.heap.size]? = some (.cells #[.slice A0 n0 c0, .slice A1 n1 c1] 26 (0, 0))) := Lib.hid (heap_alloc_new w _)
  have H0 : Hid (D.own (w.alloc (.cells #[.slice A0 n0 c0, .slice A1 n1 c1] 26)) (dTxns ts) F1 (.slice A0 n0 c0)) := Lib.hid (D.own.keep _ _ _ (fun g hg => Below.heap_alloc _ _ _ (by have := (hb g (List.mem_append_left _ hg)).2; omega)) h0)
  have H1 : Hid (D.own (w.alloc (.cells #[.slice A0 n0 c0, .slice A1 n1 c1] 26)) (intsD os) F2 (.slice A1 n1 c1)) := Lib.hid (D.own.keep _ _ _ (fun g hg => Below.heap_alloc _ _ _ (by have := (hb g (List.mem_append_right _ hg)).2; omega)) h1)
  have HB := Lib.hid hb
  have HN := Lib.hid hnd
  clear hF hb ho h0 h1 hnd
  go_enter Try.func23, Try.ntmps23
  go_wp2_with fail
  refine (markTxnS_d ts A0 n0 c0 1 1 F1 _ rfl (by omega) (by omega) HN.out.1 (fun g hg => by have := (HB.out g (List.mem_append_left _ hg)).2; simp; omega) H0.out).mono ?_
  rintro e w1 ⟨-, hc1, rfl⟩
  have hne : w.heap.size ∉ F1 := fun hm => by have := (HB.out _ (List.mem_append_left _ hm)).2; omega
  have HX1 := Lib.hid ((hc1.2.2.2.2 _ (by simp) hne).trans HX0.out)
  have HC1 := Lib.hid (HC0.out.tr (hc1.more (fun g hg => List.mem_append_left F2 hg)))
  have H2 : Hid (D.own w1 (intsD os) F2 (.slice A1 n1 c1)) := Lib.hid (D.own.keep _ _ _ (fun g hg => hc1.2.2.2.2 g (by have := (HB.out g (List.mem_append_right _ hg)).2; simp; omega) (fun hm => HN.out.2.2 g hm g hg rfl)) H1.out)
  have hs1 := hc1.2.2.2.1
  have d1 := cell_of_row w1 w.heap.size 1 _ _ _ HX1.out
  clear hc1
  go_wp2_with fail
  refine (markIntS_d os A1 n1 c1 (1 + D.cnt (dTxns ts)) _ F2 w1 rfl (by omega) (by omega) HN.out.2.1 (fun g hg => by have := (HB.out g (List.mem_append_right _ hg)).2; simp at hs1; omega) H2.out).mono ?_
  rintro e w2 ⟨-, hc2, rfl⟩
  have HC2 := Lib.hid (HC1.out.tr (hc2.more (fun g hg => List.mem_append_right F1 hg)))
  clear hc2
  go_wp2_with fail
  go_ret
  exact ⟨1 + D.cnt (dTxns ts) + D.cnt (intsD os), F1 ++ F2, HB.out, HC2.out, rfl, by omega⟩

end Go.Proofs.Ytgbkjfhmbchiiaa
