/-
  The walks of markOpS and heldOpS: numbers and texts are turned into marks; such marks are told. Condition: few elements, small marks.
-/
import Derived.Test.YtegfdckejncbdaaMInt
import Derived.Test.YtegfdckejncbdaaTOp
namespace Go.Proofs.Ytegfdckejncbdaa
set_option linter.unusedVariables false
set_option linter.unusedSimpArgs false
open Go.RowKit

theorem dOps_flat (xs : List OpD) : dOps xs = .arr 3 xs.length (xs.flatMap fOp) := rfl

set_option maxRecDepth 100000 in
set_option maxHeartbeats 3200000 in
theorem markOpS_d (xs : List OpD) (A : Option Addr) (n c k : Nat) (ki : Int) (FF : List Nat) (w : World) (hki : ki = (k : Int)) (h1 : 1 ≤ k) (hk : k + D.cnt (dOps xs) ≤ 1099511627776) (hF : FF.Nodup) (hlt : ∀ x ∈ FF, x < w.heap.size) (h : D.own w (dOps xs) FF (.slice A n c)) :
    Calls Try.prog 43 #[.slice A n c, .int .i64 ki] w fun e w' => MarkR (dOps xs) k FF (.slice A n c) w e w' := by
  subst hki
  rw [dOps_flat] at h hk ⊢
  have hl := own_len h
  have hn : xs.length = n := hl.1.symm
  have hnc := hl.2.1
  have hc63 := hl.2.2.1
  clear hl
  rw [hn] at h hk hnc ⊢
  rw [cnt_arr] at hk
  rcases Nat.eq_zero_or_pos n with h0 | h0
  · subst h0
    have hx : xs = [] := List.eq_nil_of_length_eq_zero hn
    subst hx
    have HO := Lib.hid h
    clear h hn
    go_enter Try.func43, Try.ntmps43
    go_wp2_with fail
    refine wp_loop_rounds 1 ?_
    rw [rounds_succ]
    go_wp2_with fail
    go_ret
    refine ⟨?_, Chg.refl _ _, ?_⟩
    · rw [mark_arr, List.flatMap_nil, markL_nil]; exact HO.out
    · rw [cnt_arr, List.flatMap_nil, cntL_nil]; rfl
  · obtain ⟨g, o, rfl, hgF⟩ := own_row h h0 (by omega)
    have HO := Lib.hid h
    have HF := Lib.hid hF
    have HLT := Lib.hid hlt
    have HK := Lib.hid hk
    have HN := Lib.hid hn
    clear h hF hlt hk hn
    go_enter Try.func43, Try.ntmps43
    go_wp2_with fail
    go_loopw [1, 5] (fun l i wr => ∃ j : Nat, j ≤ n ∧ i = .int .i64 j ∧ l = .int .i64 ((k + cntTo fOp xs j : Nat) : Int) ∧ D.own wr (.arr 3 n (markTo fOp xs k j)) FF (.slice (some ⟨g, o, none⟩) n c) ∧ Chg w wr FF) (fun _ i _ => n - (intOf i).toNat)
    case atStart => exact ⟨0, Nat.zero_le _, rfl, by rw [cntTo_zero]; rfl, by rw [markTo_zero]; exact HO.out, Chg.refl _ _⟩
    case round =>
      obtain ⟨j, hj, rfl, rfl, hown, hch⟩ := hrel
      have H0 := Lib.hid hown
      have HC0 := Lib.hid hch
      have hws := hch.2.2.2.1
      have HL0 : Hid (∀ x ∈ FF, x < wr.heap.size) := fun x hx => Nat.lt_of_lt_of_le (HLT.out x hx) hws
      clear hown hch
      by_cases hlt : j < n
      · have hjl : j < xs.length := by rw [HN.out]; exact hlt
        obtain ⟨q, hq⟩ : ∃ q, k + cntTo fOp xs j = q := ⟨_, rfl⟩
        have hq00 : 1 ≤ q := by omega
        have hqk : q + D.cntL (fOp xs[j]) ≤ 1099511627776 := by
          have h2 := cntTo_le (f := fOp) (xs := xs) (j := j + 1) (by omega)
          rw [cntTo_succ hjl] at h2
          have h3 := HK.out
          omega
        have HQ := Lib.hid hq
        have hcs : D.cntL (fOp xs[j]) = 1 + 1 + 1 := by
          unfold fOp
          simp only [cntL_cons, cntL_nil, cnt_int, cnt_str]
          try omega
        have HCS := Lib.hid hcs
        rw [hcs] at hqk
        rw [hq]
        clear hq hcs
        obtain ⟨⟨u0, hg0⟩, hf0, -, hp0⟩ := own_put H0.out HF.out (p := j * 3) (i := 0) (markTo_get fOp_len hjl (by omega)) (.inl ⟨_, rfl⟩) (.int (((q : Nat) : Int))) (.int .i64 (((q : Nat) : Int))) (fun W => D.own.int W _)
        simp only [Nat.add_zero, Nat.mul_one] at hg0 hf0 hp0
        have HP0 := Lib.hid hp0
        clear hp0
        have HC100 := Lib.hid (HC0.out.set hgF (o + j * 3) (.int .i64 (((q : Nat) : Int))))
        have HL100 : Hid (∀ x ∈ FF, x < (wr.setCell ⟨g, o + j * 3, none⟩ (.int .i64 (((q : Nat) : Int)))).heap.size) := fun x hx => by simpa [World.setCell] using HL0.out x hx
        obtain ⟨⟨u1, hg1⟩, hf1, -, hp1⟩ := own_put HP0.out HF.out (p := j * 3) (i := 1) ((List.getElem?_set_ne (by omega)).trans (markTo_get fOp_len hjl (by omega))) (.inl ⟨_, rfl⟩) (.int (((q : Nat) : Int) + 1)) (.int .i64 (((q : Nat) : Int) + 1)) (fun W => D.own.int W _)
        have HP1 := Lib.hid hp1
        clear hp1
        have HC101 := Lib.hid (HC100.out.set hgF (o + j * 3 + 1) (.int .i64 (((q : Nat) : Int) + 1)))
        have HL101 : Hid (∀ x ∈ FF, x < ((wr.setCell ⟨g, o + j * 3, none⟩ (.int .i64 (((q : Nat) : Int)))).setCell ⟨g, o + j * 3 + 1, none⟩ (.int .i64 (((q : Nat) : Int) + 1))).heap.size) := fun x hx => by simpa [World.setCell] using HL100.out x hx
        go_wp2_with fail
        refine (markText_d (q + 2) _ _ (by first | rfl | (simp; done) | omega) (by omega) (by omega)).mono ?_
        rintro e w2 ⟨rfl, hb2⟩
        have HC202 := Lib.hid (HC101.out.bel hb2)
        have HL202 : Hid (∀ x ∈ FF, x < w2.heap.size) := fun x hx => Nat.lt_of_lt_of_le (HL101.out x hx) hb2.size
        have HT2 := Lib.hid (D.own.keep _ FF _ (fun x hx => hb2.block x (HL101.out x hx)) HP1.out)
        clear hb2
        obtain ⟨⟨u2, hg2⟩, hf2, -, hp2⟩ := own_put HT2.out HF.out (p := j * 3) (i := 2) ((List.getElem?_set_ne (by omega)).trans ((List.getElem?_set_ne (by omega)).trans (markTo_get fOp_len hjl (by omega)))) (.inr ⟨_, rfl⟩) (.str (markT (q + 2))) (.string (markT (q + 2))) (fun W => D.own.str W (by have := markT_size (q + 2); omega))
        have HP2 := Lib.hid hp2
        clear hp2
        have HC102 := Lib.hid (HC202.out.set hgF (o + j * 3 + 2) (.string (markT (q + 2))))
        have HL102 : Hid (∀ x ∈ FF, x < (w2.setCell ⟨g, o + j * 3 + 2, none⟩ (.string (markT (q + 2)))).heap.size) := fun x hx => by simpa [World.setCell] using HL202.out x hx
        have hm : D.markL (fOp xs[j]) q = [.int (((q : Nat) : Int)), .int (((q : Nat) : Int) + 1), .str (markT (q + 2))] := by
          unfold fOp
          simp only [markL_cons, markL_nil, mark_int, mark_str, cnt_int, cnt_str]
          try rfl
        have HFIN : Hid (setsD (markTo fOp xs k j) (j * 3) [.int (((q : Nat) : Int)), .int (((q : Nat) : Int) + 1), .str (markT (q + 2))] = markTo fOp xs k (j + 1)) := by
          show _ = _
          rw [← markTo_step fOp_len hjl, HQ.out, hm]
        clear hm
        have HCN : Hid ((((q + 3 : Nat) : Int)) = ((k + cntTo fOp xs (j + 1) : Nat) : Int)) := by
          show _ = _
          have h1 := HQ.out
          have h2 := HCS.out
          rw [cntTo_succ hjl, h2]
          omega
        go_wp2_with fail
        exact ⟨⟨j + 1, by omega, by go_num, by first | (rw [← HCN.out]; done) | (rw [← HCN.out]; rfl) | (rw [← HCN.out]; congr 1), by rw [← HFIN.out]; first | exact HP2.out | simpa [setsD] using HP2.out, HC102.out⟩, by simp [intOf]; omega⟩
      · have hjn : j = n := by omega
        subst hjn
        go_wp2_with fail
        go_ret
        exact ⟨by rw [mark_arr, ← markTo_all HN.out]; exact H0.out, HC0.out, by rw [cnt_arr, ← cntTo_all HN.out]; rfl⟩

end Go.Proofs.Ytegfdckejncbdaa
