/-
  The walks of markIntS and heldIntS: numbers and texts are turned into marks; such marks are told. Condition: few elements, small marks.
-/
import Derived.Test.YtgpjcmplnigmcaaMarkT
namespace Go.Proofs.Ytgpjcmplnigmcaa
set_option linter.unusedVariables false
set_option linter.unusedSimpArgs false
open Go.RowKit

set_option maxRecDepth 100000 in
set_option maxHeartbeats 3200000 in
theorem markIntS_d (xs : List Int) (A : Option Addr) (n c k : Nat) (ki : Int) (FF : List Nat) (w : World) (hki : ki = (k : Int)) (h1 : 1 ≤ k) (hk : k + D.cnt (intsD xs) ≤ 1099511627776) (hF : FF.Nodup) (hlt : ∀ x ∈ FF, x < w.heap.size) (h : D.own w (intsD xs) FF (.slice A n c)) :
    Calls Try.prog 60 #[.slice A n c, .int .i64 ki] w fun e w' => MarkR (intsD xs) k FF (.slice A n c) w e w' := by
  subst hki
  rw [intsD_flat] at h hk ⊢
  have hl := own_len h
  have hn : xs.length = n := hl.1.symm
  have hnc := hl.2.1
  have hc63 := hl.2.2.1
  clear hl
  rw [hn] at h hk hnc ⊢
  rw [cnt_arr] at hk
  rcases Nat.eq_zero_or_pos n with h0 | h0
  · subst h0
    have hx : xs = [] := List.eq_nil_of_length_eq_zero hn
    subst hx
    have HO := Lib.hid h
    clear h hn
    go_enter Try.func60, Try.ntmps60
    go_wp2_with fail
    refine wp_loop_rounds 1 ?_
    rw [rounds_succ]
    go_wp2_with fail
    go_ret
    refine ⟨?_, Chg.refl _ _, ?_⟩
    · rw [mark_arr, List.flatMap_nil, markL_nil]; exact HO.out
    · rw [cnt_arr, List.flatMap_nil, cntL_nil]; rfl
  · obtain ⟨g, o, rfl, hgF⟩ := own_row h h0 (by omega)
    have HO := Lib.hid h
    have HF := Lib.hid hF
    have HLT := Lib.hid hlt
    have HK := Lib.hid hk
    have HN := Lib.hid hn
    clear h hF hlt hk hn
    go_enter Try.func60, Try.ntmps60
    go_wp2_with fail
    go_loopw [1, 5] (fun l i wr => ∃ j : Nat, j ≤ n ∧ i = .int .i64 j ∧ l = .int .i64 ((k + cntTo fInt xs j : Nat) : Int) ∧ D.own wr (.arr 1 n (markTo fInt xs k j)) FF (.slice (some ⟨g, o, none⟩) n c) ∧ Chg w wr FF) (fun _ i _ => n - (intOf i).toNat)
    case atStart => exact ⟨0, Nat.zero_le _, rfl, by rw [cntTo_zero]; rfl, by rw [markTo_zero]; exact HO.out, Chg.refl _ _⟩
    case round =>
      obtain ⟨j, hj, rfl, rfl, hown, hch⟩ := hrel
      have H0 := Lib.hid hown
      have HC0 := Lib.hid hch
      have hws := hch.2.2.2.1
      have HL0 : Hid (∀ x ∈ FF, x < wr.heap.size) := fun x hx => Nat.lt_of_lt_of_le (HLT.out x hx) hws
      clear hown hch
      by_cases hlt : j < n
      · have hjl : j < xs.length := by rw [HN.out]; exact hlt
        obtain ⟨q, hq⟩ : ∃ q, k + cntTo fInt xs j = q := ⟨_, rfl⟩
        have hq00 : 1 ≤ q := by omega
        have hqk : q + D.cntL (fInt xs[j]) ≤ 1099511627776 := by
          have h2 := cntTo_le (f := fInt) (xs := xs) (j := j + 1) (by omega)
          rw [cntTo_succ hjl] at h2
          have h3 := HK.out
          omega
        have HQ := Lib.hid hq
        have hcs : D.cntL (fInt xs[j]) = 1 := by
          unfold fInt
          simp only [cntL_cons, cntL_nil, cnt_int, cnt_str]
          try omega
        have HCS := Lib.hid hcs
        rw [hcs] at hqk
        rw [hq]
        clear hq hcs
        obtain ⟨⟨u0, hg0⟩, hf0, -, hp0⟩ := own_put H0.out HF.out (p := j * 1) (i := 0) (markTo_get fInt_len hjl (by omega)) (.inl ⟨_, rfl⟩) (.int (((q : Nat) : Int))) (.int .i64 (((q : Nat) : Int))) (fun W => D.own.int W _)
        simp only [Nat.add_zero, Nat.mul_one] at hg0 hf0 hp0
        have HP0 := Lib.hid hp0
        clear hp0
        have HC100 := Lib.hid (HC0.out.set hgF (o + j) (.int .i64 (((q : Nat) : Int))))
        have HL100 : Hid (∀ x ∈ FF, x < (wr.setCell ⟨g, o + j, none⟩ (.int .i64 (((q : Nat) : Int)))).heap.size) := fun x hx => by simpa [World.setCell] using HL0.out x hx
        have hm : D.markL (fInt xs[j]) q = [.int (((q : Nat) : Int))] := by
          unfold fInt
          simp only [markL_cons, markL_nil, mark_int, mark_str, cnt_int, cnt_str]
          try rfl
        have HFIN : Hid (setsD (markTo fInt xs k j) (j * 1) [.int (((q : Nat) : Int))] = markTo fInt xs k (j + 1)) := by
          show _ = _
          rw [← markTo_step fInt_len hjl, HQ.out, hm]
        clear hm
        have HCN : Hid ((((q + 1 : Nat) : Int)) = ((k + cntTo fInt xs (j + 1) : Nat) : Int)) := by
          show _ = _
          have h1 := HQ.out
          have h2 := HCS.out
          rw [cntTo_succ hjl, h2]
          omega
        go_wp2_with fail
        exact ⟨⟨j + 1, by omega, by go_num, by first | (rw [← HCN.out]; done) | (rw [← HCN.out]; rfl) | (rw [← HCN.out]; congr 1), by rw [← HFIN.out]; first | exact HP0.out | simpa [setsD] using HP0.out, HC100.out⟩, by simp [intOf]; omega⟩
      · have hjn : j = n := by omega
        subst hjn
        go_wp2_with fail
        go_ret
        exact ⟨by rw [mark_arr, ← markTo_all HN.out]; exact H0.out, HC0.out, by rw [cnt_arr, ← cntTo_all HN.out]; rfl⟩

set_option maxRecDepth 100000 in
set_option maxHeartbeats 3200000 in
theorem heldIntS_d (xs : List Int) (A : Option Addr) (n c k : Nat) (ki : Int) (w : World) (lo hi : Nat) (hh : hi ≤ w.heap.size) (hki : ki = (k : Int)) (h1 : 1 ≤ k) (hk : k + D.cnt (intsD xs) ≤ 1099511627776) (h : D.rd w lo hi (D.mark (intsD xs) k) (.slice A n c)) :
    Calls Try.prog 98 #[.slice A n c, .int .i64 ki] w fun e w' => HeldR (intsD xs) k w e w' := by
  subst hki
  rw [intsD_flat] at h hk ⊢
  rw [mark_arr] at h
  rw [cnt_arr] at hk
  have hn : xs.length = n := h.len.1.symm
  have hnc := h.len.2.1
  have hc63 := h.len.2.2
  rw [hn] at h hnc ⊢
  have HI := Lib.hid h
  have HK := Lib.hid hk
  have HN := Lib.hid hn
  clear h hk hn
  go_enter Try.func98, Try.ntmps98
  go_wp2_with fail
  go_loopw [1, 5] (fun l i wr => ∃ j : Nat, j ≤ n ∧ i = .int .i64 j ∧ l = .int .i64 ((k + cntTo fInt xs j : Nat) : Int) ∧ Below w.heap.size w wr) (fun _ i _ => n - (intOf i).toNat)
  case atStart => exact ⟨0, Nat.zero_le _, rfl, by rw [cntTo_zero]; rfl, Below.refl _ _⟩
  case round =>
    obtain ⟨j, hj, rfl, rfl, hb⟩ := hrel
    have HB0 := Lib.hid hb
    have hws0 := hb.size
    clear hb
    by_cases hlt : j < n
    · have hjl : j < xs.length := by rw [HN.out]; exact hlt
      obtain ⟨b, o, rfl, _, hbh, hc⟩ := rd_row (HI.out.below HB0.out hh) (by omega) (by omega)
      obtain ⟨q, hq⟩ : ∃ q, k + cntTo fInt xs j = q := ⟨_, rfl⟩
      have hq00 : 1 ≤ q := by omega
      have hqk : q + D.cntL (fInt xs[j]) ≤ 1099511627776 := by
        have h2 := cntTo_le (f := fInt) (xs := xs) (j := j + 1) (by omega)
        rw [cntTo_succ hjl] at h2
        have h3 := HK.out
        omega
      have HQ := Lib.hid hq
      have hcs : D.cntL (fInt xs[j]) = 1 := by
        unfold fInt
        simp only [cntL_cons, cntL_nil, cnt_int, cnt_str]
        try omega
      have HCS := Lib.hid hcs
      rw [hcs] at hqk
      rw [hq]
      have hbw : b < wr.heap.size := by omega
      clear hq hcs
      have hm : D.markL (fInt xs[j]) q = [.int (((q : Nat) : Int))] := by
        unfold fInt
        simp only [markL_cons, markL_nil, mark_int, mark_str, cnt_int, cnt_str]
        try rfl
      obtain ⟨u0, hg0, hr0⟩ := hc (j * 1) 0 (.int (((q : Nat) : Int))) ((markL_get fInt_len hjl (by omega)).trans (by rw [HQ.out, hm]; rfl))
      simp only [Nat.add_zero, Nat.mul_one] at hg0
      obtain rfl := hr0.int_inv
      clear hm hc
      have HCN : Hid ((((q + 1 : Nat) : Int)) = ((k + cntTo fInt xs (j + 1) : Nat) : Int)) := by
        show _ = _
        have h1 := HQ.out
        have h2 := HCS.out
        rw [cntTo_succ hjl, h2]
        omega
      go_wp2_with fail
      exact ⟨⟨j + 1, by omega, by go_num, by first | (rw [← HCN.out]; done) | (rw [← HCN.out]; rfl) | (rw [← HCN.out]; congr 1), HB0.out⟩, by simp [intOf]; omega⟩
    · have hjn : j = n := by omega
      subst hjn
      go_wp2_with fail
      go_ret
      exact ⟨HB0.out, by rw [cnt_arr, ← cntTo_all HN.out]; rfl⟩

end Go.Proofs.Ytgpjcmplnigmcaa
