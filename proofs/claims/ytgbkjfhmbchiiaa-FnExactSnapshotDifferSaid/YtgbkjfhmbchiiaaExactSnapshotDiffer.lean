/-
  For all arguments: the program's SnapshotDiffer returns what the reference's returns, leaves its argument as it was, and shares no memory. No condition.
-/
import Derived.Test.YtgbkjfhmbchiiaaM13
import Derived.Test.YtgbkjfhmbchiiaaSnapE
import Derived.Test.YtgbkjfhmbchiiaaM17
import Derived.Test.YtgbkjfhmbchiiaaM19
namespace Go.Proofs.Ytgbkjfhmbchiiaa.fnExactSnapshotDiffer
set_option linter.unusedVariables false
set_option linter.unusedSimpArgs false
open Go.ChangeShapes Go.WideShapes Go.ChangeAt Go.RowKit

theorem OwnL.ival {w : World} {lo : Nat} {ds : List D} {vs : List Value} (h : OwnL w lo ds vs) : OwnLI w lo w.heap.size ds vs := h
theorem OwnLI.chg {w w' : World} {lo hi : Nat} {d : D} {v : Value} {F : List Nat} (h : OwnI w lo hi d v) (hc : Chg w w' F) (hhi : hi ≤ w.heap.size) (hF : ∀ g ∈ F, g < lo ∨ hi ≤ g) : OwnI w' lo hi d v := OwnI.chg h hc hhi hF
/-- a row of ints of the call's own, as data of its own -/
theorem row_own {w : World} {base n : Nat} {v : Value} {xs : List Int} (h : w.ownsRow base 3 1 v n (xs.flatMap ci)) : ∃ B d, v = .slice B n d ∧ OwnI w base w.heap.size (intsD xs) (.slice B n d) := by
  obtain ⟨A, c, rfl, -, -, -⟩ := Rd.of_own h
  exact ⟨A, c, rfl, own_ints h⟩

set_option maxHeartbeats 3200000 in
set_option maxRecDepth 100000 in
theorem walk (A0 : Option Addr) (n0 c0 : Nat) (ts : List TxnD) (A1 : Option Addr) (n1 c1 : Nat) (os : List Int) (a b : Int) (w : World) (w0 : D.rd w 0 w.heap.size (dTxns ts) (.slice A0 n0 c0) ∧ D.rd w 0 w.heap.size (intsD os) (.slice A1 n1 c1) ∧ D.wf (dTxns ts) ∧ D.wf (intsD os)) (wa : (Lit.int .i64 a).wf = true) (wb : (Lit.int .i64 b).wf = true) :
    Calls Try.prog 7 #[.agg #[.slice A0 n0 c0, .slice A1 n1 c1], .int .i64 a, .int .i64 b] w fun e w' => e = .returned (.bool true) ∧ Below w.heap.size w w' := by
  obtain ⟨hr0, hr1, hw0, -⟩ := w0
  have HT := Lib.hid hr0
  have HO := Lib.hid hr1
  have HWF := Lib.hid (wf_votes hw0)
  have HN0 := Lib.hid hr0.len.1
  have HN1 := Lib.hid hr1.ints.1
  have HB0 : Hid (Below w.heap.size w (w.alloc (.cells #[.slice A0 n0 c0, .slice A1 n1 c1] 35))) := (Below.refl _ _).alloc (Nat.le_refl _) _
  have HX0 : Hid ((w.alloc (.cells #[.slice A0 n0 c0, .slice A1 n1 c1] 35)).heap[w.heap.size]? = some (.cells #[.slice A0 n0 c0, .slice A1 n1 c1] 35 (0, 0))) := Lib.hid (heap_alloc_new w _)
  clear hr0 hr1 hw0 wa wb
  go_enter Try.func7, Try.ntmps7
  go_wp2_with fail
  refine (szCoordinator_d ts os A0 n0 c0 A1 n1 c1 1048576 _ 0 w.heap.size HB0.out.size (HT.out.below HB0.out (Nat.le_refl _)) (HO.out.below HB0.out (Nat.le_refl _)) (by omega) (by omega)).mono ?_
  rintro e w1 ⟨r, hr1, hr2, hr3, hb1, rfl⟩
  have HB1 := Lib.hid (bel_tr HB0.out (Nat.le_refl _) hb1)
  have HX1 := Lib.hid ((hb1.block _ (by simp)).trans HX0.out)
  clear hb1
  by_cases hr0 : r < 0
  · go_wp2_with fail
    go_ret
    exact ⟨rfl, HB1.out⟩
  have hr4 : 0 ≤ r := by omega
  have hsz : D.sz (dTxns ts) + D.sz (intsD os) ≤ 1048576 := by
    have h1 := hr3 hr4
    have h2 := szL_fCoordinator ⟨ts, os⟩
    dsimp only at h2
    omega
  have HS0 : Hid (D.sz (dTxns ts) ≤ 1048576) := by show _ ≤ _; omega
  have HS1 : Hid (D.sz (intsD os) ≤ 1048576) := by show _ ≤ _; omega
  have HCT : Hid (D.cnt (dTxns ts) + D.cnt (intsD os) ≤ 8000000) := by
    show _ ≤ _
    have h1 := cnt_dTxns ts
    have h2 := cnt_ints os
    have h3 := sz_ints os
    omega
  have hn0 : n0 ≤ 1048576 := by
    have h1 := HN0.out
    have h2 := HS0.out
    unfold dTxns at h2
    rw [sz_arr] at h2; omega
  have hn1 : n1 ≤ 1048576 := by
    have h1 := HN1.out
    have h2 := HS1.out
    rw [sz_ints] at h2; omega
  have hz1 : w.heap.size < w1.heap.size := hlt_of HX1.out
  have d0 := cell_of_row w1 w.heap.size 0 _ _ _ HX1.out
  have d1 := cell_of_row w1 w.heap.size 1 _ _ _ HX1.out
  obtain ⟨ds, hds⟩ : ∃ ds, difL ⟨ts, os⟩ a b = ds := ⟨_, rfl⟩
  have HDS := Lib.hid hds
  clear hr0 hr3 hsz hds
  go_wp2_with fail
  refine (toCoordinator_d ts os A0 n0 c0 A1 n1 c1 w1 0 w.heap.size HB1.out.size (HT.out.below HB1.out (Nat.le_refl _)) (HO.out.below HB1.out (Nat.le_refl _)) HS0.out HS1.out).mono ?_
  rintro e w2 ⟨B0, bc0, B1, bc1, ho2, hb2, rfl⟩
  have HB2 := Lib.hid (bel_tr HB1.out (Nat.le_refl _) hb2)
  have HX2 := Lib.hid ((hb2.block _ hz1).trans HX1.out)
  have HO2 := Lib.hid (OwnL.ival ho2).rd2
  clear ho2 hb2
  go_wp2_with fail
  refine (specSnapD_any ts os a b B0 n0 bc0 B1 n1 bc1 w2 _ w2.heap.size (Nat.le_refl _) HO2.out.1 HO2.out.2 hn1).mono ?_
  rintro e w3 ⟨v3, m3, hown3, hm3, hb3, rfl⟩
  rw [HDS.out] at hown3
  obtain ⟨C3, d3, rfl, hw3⟩ := row_own hown3
  have HB3 := Lib.hid (bel_tr HB2.out (Nat.le_refl _) hb3)
  have HX3 := Lib.hid ((hb3.block _ (hlt_of HX2.out)).trans HX2.out)
  have HW3 := Lib.hid hw3.rd
  have hs3 := hb3.size
  have hz3 : w.heap.size < w3.heap.size := hlt_of HX3.out
  have d30 := cell_of_row w3 w.heap.size 0 _ _ _ HX3.out
  have d31 := cell_of_row w3 w.heap.size 1 _ _ _ HX3.out
  have hz2 := HB2.out.size
  clear hb3 hown3 hw3
  go_wp2_with fail
  refine (toCoordinator_d ts os A0 n0 c0 A1 n1 c1 w3 0 w.heap.size HB3.out.size (HT.out.below HB3.out (Nat.le_refl _)) (HO.out.below HB3.out (Nat.le_refl _)) HS0.out HS1.out).mono ?_
  rintro e w4 ⟨E0, ec0, E1, ec1, ho4, hb4, rfl⟩
  have HB4 := Lib.hid (bel_tr HB3.out (Nat.le_refl _) hb4)
  have HX4 := Lib.hid ((hb4.block _ hz3).trans HX3.out)
  have HO4 := Lib.hid (OwnL.ival ho4)
  have HW4 := Lib.hid (HW3.out.below hb4 (Nat.le_refl _))
  have hs4 := hb4.size
  have HBA : Hid (Below w.heap.size w (w4.alloc (.cells #[.slice E0 n0 ec0, .slice E1 n1 ec1] 26))) := Lib.hid (HB4.out.alloc HB4.out.size _)
  have hba : Below w4.heap.size w4 (w4.alloc (.cells #[.slice E0 n0 ec0, .slice E1 n1 ec1] 26)) := (Below.refl _ _).alloc (Nat.le_refl _) _
  have HXA : Hid ((w4.alloc (.cells #[.slice E0 n0 ec0, .slice E1 n1 ec1] 26)).heap[w.heap.size]? = some (.cells #[.slice A0 n0 c0, .slice A1 n1 c1] 35 (0, 0))) := Lib.hid ((Below.heap_alloc w4 _ _ (hlt_of HX4.out)).trans HX4.out)
  have HYA : Hid ((w4.alloc (.cells #[.slice E0 n0 ec0, .slice E1 n1 ec1] 26)).heap[w4.heap.size]? = some (.cells #[.slice E0 n0 ec0, .slice E1 n1 ec1] 26 (0, 0))) := Lib.hid (heap_alloc_new w4 _)
  have HPA := Lib.hid (HO4.out.below hba (Nat.le_refl _))
  have HWA := Lib.hid (HW4.out.below hba hs4)
  have hsA : (w4.alloc (.cells #[.slice E0 n0 ec0, .slice E1 n1 ec1] 26)).heap.size = w4.heap.size + 1 := by simp
  clear ho4 hb4 hba
  go_wp2_with fail
  refine (implSnapD_any ts os a b E0 n0 ec0 E1 n1 ec1 _ _ w4.heap.size (by simp) HPA.out.rd2.1 HPA.out.rd2.2 hn0 hn1 HWF.out).mono ?_
  rintro e w5 ⟨v5, m5, hown5, hm5, hb5, rfl⟩
  rw [HDS.out] at hown5
  rw [hsA] at hb5 hown5
  obtain ⟨C5, d5, rfl, hw5⟩ := row_own hown5
  have HB5 := Lib.hid (HBA.out.trans (hb5.mono (by omega)))
  have HX5 := Lib.hid ((hb5.block _ (by omega)).trans HXA.out)
  have HY5 := Lib.hid ((hb5.block _ (by omega)).trans HYA.out)
  have HP5 := Lib.hid (HPA.out.below hb5 (by omega))
  have HW5 := Lib.hid (HWA.out.below hb5 (by omega))
  have HG5 := Lib.hid hw5
  have hs5 := hb5.size
  have hz5 : w.heap.size < w5.heap.size := hlt_of HX5.out
  have hz5b : w4.heap.size < w5.heap.size := hlt_of HY5.out
  clear hb5 hown5 hw5
  go_wp2_with fail
  refine (eqIntS_d ds C5 C3 m5 m3 d5 d3 w5 (w4.heap.size + 1) w5.heap.size w2.heap.size w3.heap.size HG5.out.rd HW5.out).mono ?_
  rintro e w6 ⟨rfl, hb6⟩
  have HB6 := Lib.hid (bel_tr HB5.out (Nat.le_refl _) hb6)
  have HX6 := Lib.hid ((hb6.block _ hz5).trans HX5.out)
  have HY6 := Lib.hid ((hb6.block _ hz5b).trans HY5.out)
  have HP6 := Lib.hid (HP5.out.below hb6 (by omega))
  have HW6 := Lib.hid (HW5.out.below hb6 (by omega))
  have HG6 := Lib.hid (HG5.out.below hb6 (Nat.le_refl _))
  have hs6 := hb6.size
  have hz6 : w.heap.size < w6.heap.size := hlt_of HX6.out
  have hz6b : w4.heap.size < w6.heap.size := hlt_of HY6.out
  have d60 := cell_of_row w6 w.heap.size 0 _ _ _ HX6.out
  have d61 := cell_of_row w6 w.heap.size 1 _ _ _ HX6.out
  have d62 := cell_of_row w6 w4.heap.size 0 _ _ _ HY6.out
  have d63 := cell_of_row w6 w4.heap.size 1 _ _ _ HY6.out
  have HD6 := Lib.hid HB6.out.drew
  clear hb6
  go_wp2_with fail
  go_upto_region 10 with (fail)
  go_cut [39] (fun u wx => u = .bool false ∧ Below w6.heap.size w6 wx)
  case first =>
    have HPD := Lib.hid HP6.out.rd2
    go_region_with
      (first
        | (go_at_call 14; (refine (toCoordinator_d ts os A0 n0 c0 A1 n1 c1 w6.drew 0 w.heap.size HD6.out.size (HT.out.below HD6.out (Nat.le_refl _)) (HO.out.below HD6.out (Nat.le_refl _)) HS0.out HS1.out).mono ?_); rintro e w7 ⟨G0, gc0, G1, gc1, ho7, hb7', rfl⟩; have hb7 : Below w6.heap.size w6 w7 := (Below.refl _ _).drew.trans hb7'; have HB7 := Lib.hid hb7; have HO7 := Lib.hid (OwnL.ival ho7).rd2; have d72 : w7.cell? ⟨w4.heap.size, 0, none⟩ = some (.slice E0 n0 ec0) := (hb7.cell hz6b).trans d62; have d73 : w7.cell? ⟨w4.heap.size, 1, none⟩ = some (.slice E1 n1 ec1) := (hb7.cell hz6b).trans d63; have HQ70 := Lib.hid (HPD.out.1.below hb7 (by omega)); have HQ71 := Lib.hid (HPD.out.2.below hb7 (by omega)); have hz7 : w4.heap.size < w7.heap.size := Nat.lt_of_lt_of_le hz6b hb7.size; clear ho7 hb7 hb7')
        | (go_at_call 15; (refine (eqCoordinator_d ts os E0 n0 ec0 E1 n1 ec1 G0 n0 gc0 G1 n1 gc1 w7 _ w4.heap.size _ w7.heap.size (by omega) (Nat.le_refl _) HQ70.out HQ71.out HO7.out.1 HO7.out.2).mono ?_); rintro e w8 ⟨rfl, hb8⟩; have HB8 := Lib.hid (bel_tr HB7.out (Nat.le_refl _) hb8); clear hb8))
    all_goals (go_wp2_with fail; go_meet; exact ⟨rfl, HB8.out⟩)
  case rest =>
    obtain ⟨rfl, hb8⟩ := hcut
    have HB8 := Lib.hid (bel_tr HB6.out (Nat.le_refl _) hb8)
    have HX8 := Lib.hid ((hb8.block _ hz6).trans HX6.out)
    have HY8 := Lib.hid ((hb8.block _ hz6b).trans HY6.out)
    have HP8 := Lib.hid (HP6.out.below hb8 (by omega))
    have HW8 := Lib.hid (HW6.out.below hb8 (by omega))
    have HG8 := Lib.hid (HG6.out.below hb8 hs6)
    have hs8 := hb8.size
    have hz8 : w.heap.size < wc.heap.size := hlt_of HX8.out
    have hz8b : w4.heap.size < wc.heap.size := hlt_of HY8.out
    have d82 := cell_of_row wc w4.heap.size 0 _ _ _ HY8.out
    have d83 := cell_of_row wc w4.heap.size 1 _ _ _ HY8.out
    clear hb8 d60 d61 d62 d63
    go_wp2_with fail
    refine (markCoord_d ts os E0 n0 ec0 E1 n1 ec1 w3.heap.size w4.heap.size wc (by omega) HCT.out HP8.out).mono ?_
    rintro e w9 ⟨q9, F9, hF9, hc9, rfl, hq9⟩
    have HB9 := Lib.hid (hc9.below HB8.out (Nat.le_refl _) (fun g hg => by have := (hF9 g hg).1; omega))
    have HX9 := Lib.hid ((hc9.2.2.2.2 _ hz8 (fun hm => by have := (hF9 _ hm).1; omega)).trans HX8.out)
    have HW9 := Lib.hid (HW8.out.chg hc9 (by omega) (fun g hg => by have := hF9 g hg; omega))
    have HG9 := Lib.hid (HG8.out.chg hc9 (by omega) (fun g hg => by have := hF9 g hg; omega))
    have hs9 := hc9.2.2.2.1
    have hq9' : ¬ ((q9 : Int) < 0) := by omega
    clear hc9 hF9
    go_wp2_with fail
    refine (eqIntS_d ds C5 C3 m5 m3 d5 d3 w9 (w4.heap.size + 1) w5.heap.size w2.heap.size w3.heap.size HG9.out.rd HW9.out).mono ?_
    rintro e w10 ⟨rfl, hb10⟩
    have HB10 := Lib.hid (bel_tr HB9.out (Nat.le_refl _) hb10)
    have HX10 := Lib.hid ((hb10.block _ (hlt_of HX9.out)).trans HX9.out)
    have HW10 := Lib.hid (HW9.out.below hb10 (by omega))
    have HG10 := Lib.hid (HG9.out.below hb10 (by omega))
    have hs10 := hb10.size
    have HLEN : Hid (D.cnt (intsD ds) ≤ 3) := by
      show _ ≤ _
      rw [cnt_ints]
      have := HG10.out.rd.ints.1
      omega
    clear hb10
    obtain ⟨G, hG⟩ := HG10.out
    have HGa := Lib.hid hG.1
    have HGb := Lib.hid hG.2.1
    have HGc := Lib.hid hG.2.2
    clear hG
    go_wp2_with fail
    refine (markIntS_d ds C5 m5 d5 1 1 G _ rfl (by omega) (by have := HLEN.out; omega) HGa.out (fun g hg => by have := (HGb.out g hg).2; omega) HGc.out).mono ?_
    rintro e w11 ⟨ho11, hc11, rfl⟩
    have HB11 := Lib.hid (hc11.below HB10.out (Nat.le_refl _) (fun g hg => by have := (HGb.out g hg).1; omega))
    have HX11 := Lib.hid ((hc11.2.2.2.2 _ (hlt_of HX10.out) (fun hm => by have := (HGb.out _ hm).1; omega)).trans HX10.out)
    have HW11 := Lib.hid (HW10.out.chg hc11 (by omega) (fun g hg => by have := HGb.out g hg; omega))
    have HM11 : Hid (D.rd w11 (w4.heap.size + 1) w5.heap.size (D.mark (intsD ds) 1) (.slice C5 m5 d5)) := D.own.rd _ G _ HGb.out ho11
    have hs11 := hc11.2.2.2.1
    clear ho11 hc11 HG10
    obtain ⟨q, hqq⟩ : ∃ q, 1 + D.cnt (intsD ds) = q := ⟨_, rfl⟩
    have hqk : q ≤ 4 := by have := HLEN.out; omega
    have HQ := Lib.hid hqq
    rw [hqq]
    clear hqq
    have hne : ((q : Int) != (q : Int)) = false := by simp
    have hnn : ¬ ((q : Int) < 0) := by omega
    go_wp2_with fail
    refine (heldIntS_d ds C5 m5 d5 1 1 _ (w4.heap.size + 1) w5.heap.size (by omega) rfl (by omega) (by have := HLEN.out; omega) HM11.out).mono ?_
    rintro e w12 ⟨hb12, rfl⟩
    rw [HQ.out]
    have HB12 := Lib.hid (bel_tr HB11.out (Nat.le_refl _) hb12)
    have HX12 := Lib.hid ((hb12.block _ (hlt_of HX11.out)).trans HX11.out)
    have HW12 := Lib.hid (HW11.out.below hb12 (by omega))
    have HM12 := Lib.hid (HM11.out.below hb12 (by omega))
    have hs12 := hb12.size
    have hz12 : w.heap.size < w12.heap.size := hlt_of HX12.out
    have d120 := cell_of_row w12 w.heap.size 0 _ _ _ HX12.out
    have d121 := cell_of_row w12 w.heap.size 1 _ _ _ HX12.out
    clear hb12
    go_wp2_with fail
    refine (toCoordinator_d ts os A0 n0 c0 A1 n1 c1 w12 0 w.heap.size HB12.out.size (HT.out.below HB12.out (Nat.le_refl _)) (HO.out.below HB12.out (Nat.le_refl _)) HS0.out HS1.out).mono ?_
    rintro e w13 ⟨J0, jc0, J1, jc1, ho13, hb13, rfl⟩
    have HB13 := Lib.hid (bel_tr HB12.out (Nat.le_refl _) hb13)
    have HO13 := Lib.hid (OwnL.ival ho13).rd2
    have HW13 := Lib.hid (HW12.out.below hb13 (by omega))
    have HM13 := Lib.hid (HM12.out.below hb13 (by omega))
    have hs13 := hb13.size
    clear ho13 hb13
    go_wp2_with fail
    refine (implSnapD_any ts os a b J0 n0 jc0 J1 n1 jc1 w13 _ w13.heap.size (Nat.le_refl _) HO13.out.1 HO13.out.2 hn0 hn1 HWF.out).mono ?_
    rintro e w14 ⟨v14, m14, hown14, hm14, hb14, rfl⟩
    rw [HDS.out] at hown14
    obtain ⟨C14, d14, rfl, hw14⟩ := row_own hown14
    have HB14 := Lib.hid (bel_tr HB13.out (Nat.le_refl _) hb14)
    have HW14 := Lib.hid (HW13.out.below hb14 (by omega))
    have HM14 := Lib.hid (HM13.out.below hb14 (by omega))
    have HH14 := Lib.hid hw14.rd
    have hs14 := hb14.size
    clear hw14 hown14 hb14
    go_wp2_with fail
    refine (eqIntS_d ds C14 C3 m14 m3 d14 d3 w14 w13.heap.size w14.heap.size w2.heap.size w3.heap.size HH14.out HW14.out).mono ?_
    rintro e w15 ⟨rfl, hb15⟩
    have HB15 := Lib.hid (bel_tr HB14.out (Nat.le_refl _) hb15)
    have HM15 := Lib.hid (HM14.out.below hb15 (by omega))
    have hs15 := hb15.size
    clear hb15
    go_wp2_with fail
    refine (heldIntS_d ds C5 m5 d5 1 1 _ (w4.heap.size + 1) w5.heap.size (by omega) rfl (by omega) (by have := HLEN.out; omega) HM15.out).mono ?_
    rintro e w16 ⟨hb16, rfl⟩
    rw [HQ.out]
    have HB16 := Lib.hid (bel_tr HB15.out (Nat.le_refl _) hb16)
    clear hb16
    go_wp2_with fail
    go_ret
    exact ⟨rfl, HB16.out⟩

set_option linter.unusedVariables false
set_option maxRecDepth 100000 in
theorem lifted (os : Os) (started : os.Started) (H : Type) (enc : TypeId × Value → H) :
    ReturnsInHanded {} Try.checked os 7 .any (Rows.fnExactSnapshotDifferSpec.pre6 enc Try.prog Try.f7 Rows.fnExactSnapshotDifferRow.domain false) (Rows.fnExactSnapshotDifferSpec.post enc Try.prog Try.f7 false true false false) := by
  refine returnsInHanded_of_change (C := Try.checked) Try.own started (by kernel_rfl) Try.func7
    (ChangeSpec.witness6 (enc := enc) (C := Try.checked) false ⟨#[], #[.agg #[.slice none 0 0, .slice none 0 0], .int .i64 0, .int .i64 0], []⟩ 8 (by kernel_rfl) (by kernel_rfl) (by kernel_rfl) (by kernel_rfl)) ?_
  intro W base args ds gs before hval0 hW hcnd _
  have hval : ∀ (j : Nat) t v, Try.f7.params[j]? = some t → args[j]? = some v → Value.okWide Try.prog W .any base t v := hval0
  have hW' := hW
  obtain ⟨p, q, hA0, hV, rfl, hfz, hnd⟩ := hW
  have hA : DataW.TrodAll enc Try.prog W 0 (fun _ => true) true Try.f7.params.toList args.toList ds p := hA0
  rw [Try.params7] at hA hval
  obtain ⟨v0, vs0, d0, ds0, p0, q0, hargs, rfl, rfl, h0, r0⟩ := trodAll_cons hA
  obtain ⟨v1, vs1, d1, ds1, p1, q1, rfl, rfl, rfl, h1, r1⟩ := trodAll_cons r0
  obtain ⟨v2, vs2, d2, ds2, p2, q2, rfl, rfl, rfl, h2, r2⟩ := trodAll_cons r1
  obtain ⟨rfl, rfl, rfl⟩ := trodAll_nil r2
  obtain rfl : args = #[v0, v1, v2] := by cases args; simp_all
  obtain ⟨rfl, rfl⟩ := trodVars_none hV
  have k0 := h0
  have lt0 : ∀ x ∈ p0, x.block < W.heap.size := by obtain ⟨m, hm⟩ := k0; exact DataW.trod_lt m _ _ _ hm
  obtain ⟨x0_0, x0_1, x0_2, x0_3, x0_4, x0_5, x0_6, x0_7, rfl, w0⟩ := open_Coord (hval 0 35 v0 rfl rfl) h0
  have k1 := h1
  have lt1 : ∀ x ∈ p1, x.block < W.heap.size := by obtain ⟨m, hm⟩ := k1; exact DataW.trod_lt m _ _ _ hm
  obtain ⟨n1, rfl, _, _, w1⟩ := open_int Try.underlying3 (hval 1 3 v1 rfl rfl) h1
  have k2 := h2
  have lt2 : ∀ x ∈ p2, x.block < W.heap.size := by obtain ⟨m, hm⟩ := k2; exact DataW.trod_lt m _ _ _ hm
  obtain ⟨n2, rfl, _, _, w2⟩ := open_int Try.underlying3 (hval 2 3 v2 rfl rfl) h2
  clear hA0 hval0
  refine (walk x0_0 x0_1 x0_2 x0_3 x0_4 x0_5 x0_6 x0_7 n1 n2 W w0 w1 w2).mono fun e W' ⟨he, bel⟩ => ?_
  subst he
  exact ⟨_, rfl, _, _, _, [], _, [], hW', trodAll_mk1 (shut_bool Try.underlying4 _), (trodAll_cons_mk (Below.trod Try.laidOut (by kernel_rfl) (of_decide_eq_true (by kernel_rfl)) k0 bel lt0) (trodAll_cons_mk (Below.trod Try.laidOut (by kernel_rfl) (of_decide_eq_true (by kernel_rfl)) k1 bel lt1) (trodAll_cons_mk (Below.trod Try.laidOut (by kernel_rfl) (of_decide_eq_true (by kernel_rfl)) k2 bel lt2) trodAll_mk0))), rfl, bel.frame _, fun h => by cases h⟩

theorem proved : Rows.FnExactSnapshotDifferSaid :=
  OpenClaim.holds_of_wide 7 Try.f7 rfl rfl rfl rfl rfl rfl rfl ⟨rfl, rfl, rfl, rfl, rfl⟩ rfl rfl rfl rfl rfl (by kernel_rfl) Try.func7 (by kernel_rfl)
    (of_decide_eq_true (by kernel_rfl)) (by unfold Func.isWrapper; first | (rw [if_pos (by decide +kernel)]; kernel_rfl) | (rw [if_neg (by decide +kernel)]; exact ⟨rfl, rfl⟩))
    (fun os started H enc _ => lifted os started H enc)

#print axioms proved
end Go.Proofs.Ytgbkjfhmbchiiaa.fnExactSnapshotDiffer
