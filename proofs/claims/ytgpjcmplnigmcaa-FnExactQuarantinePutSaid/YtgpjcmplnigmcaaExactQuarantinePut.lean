/-
  For all arguments: the program's QuarantinePut returns what the reference's returns, leaves its arguments as they were, and shares no memory. No condition.
-/
import Derived.Test.YtgpjcmplnigmcaaCntQ
import Derived.Test.YtgpjcmplnigmcaaOQua
namespace Go.Proofs.Ytgpjcmplnigmcaa.fnExactQuarantinePut
set_option linter.unusedVariables false
set_option linter.unusedSimpArgs false
open Go.ChangeShapes Go.WideShapes Go.ChangeAt Go.RowKit

set_option maxRecDepth 100000 in
set_option maxHeartbeats 6400000 in
theorem walk (A0 : Option Addr) (n0 c0 : Nat) (os : List ObjD) (A1 : Option Addr) (n1 c1 : Nat) (zs : List AreaD) (t : Int) (L : Option Addr) (nl cl : Nat) (l : List ObjD) (w : World) (w0 : D.rd w 0 w.heap.size (dObjects os) (.slice A0 n0 c0) ∧ D.rd w 0 w.heap.size (dAreas zs) (.slice A1 n1 c1)) (wn : (Lit.int .i64 t).wf = true) (wl : D.rd w 0 w.heap.size (dObjects l) (.slice L nl cl)) :
    Calls Try.prog 3 #[.agg #[.slice A0 n0 c0, .slice A1 n1 c1], .int .i64 t, .slice L nl cl] w fun e w' => e = .returned (.bool true) ∧ Below w.heap.size w w' := by
  obtain ⟨hr0, hr1⟩ := w0
  have HT := Lib.hid hr0
  have HO := Lib.hid hr1
  have HL := Lib.hid wl
  obtain ⟨x, hx⟩ : ∃ z, z = w.heap.size := ⟨_, rfl⟩
  obtain ⟨w1, hw1⟩ : ∃ z, z = w.alloc (.cells #[.slice A0 n0 c0, .slice A1 n1 c1] 25) := ⟨_, rfl⟩
  have hb : Below w.heap.size w w1 := by rw [hw1]; exact (Below.refl _ _).alloc (Nat.le_refl _) _
  have Hx_1 : Hid (w1.heap[x]? = some (.cells #[.slice A0 n0 c0, .slice A1 n1 c1] 25 (0, 0))) := by rw [hw1, hx]; exact Lib.hid (heap_alloc_new w _)
  have hxb : w.heap.size ≤ x ∧ x < w1.heap.size := ⟨by omega, hltS Hx_1.out⟩
  have HB1 := Lib.hid hb
  have hs1 := hb.size
  clear hr0 hr1 wn wl hb
  go_enter Try.func3, Try.ntmps3
  go_upto_region 1 with (fail)
  rw [← hw1, ← hx]
  clear hw1 hx
  have xc0 := cell_of_row _ _ 0 _ _ _ Hx_1.out
  have xc1 := cell_of_row _ _ 1 _ _ _ Hx_1.out
  have xl := hltS Hx_1.out
  go_wp2_with fail
  refine (szQuarantine_d os zs A0 n0 c0 A1 n1 c1 1048576 w1 0 w.heap.size HB1.out.size (HT.out.below HB1.out (Nat.le_refl _)) (HO.out.below HB1.out (Nat.le_refl _)) (by omega) (by omega)).mono ?_
  rintro e w2 ⟨r, hr1, hr2, hr3, hb, rfl⟩
  clear xc0 xc1 xl
  have HB2 := Lib.hid (bel_tr HB1.out (Nat.le_refl _) hb)
  have hs2 : w1.heap.size ≤ w2.heap.size := hb.size
  have Hx_2 := Lib.hid ((hb.block _ (hltS Hx_1.out)).trans Hx_1.out)
  clear hb
  have xc0 := cell_of_row _ _ 0 _ _ _ Hx_2.out
  have xc1 := cell_of_row _ _ 1 _ _ _ Hx_2.out
  have xl := hltS Hx_2.out
  by_cases hr0 : r < 0
  · go_wp2_with fail
    go_ret
    exact ⟨rfl, HB2.out⟩
  have hr4 : 0 ≤ r := by omega
  have hsz : D.sz (dObjects os) + D.sz (dAreas zs) ≤ 1048576 := by
    have h1 := hr3 hr4
    have h2 := szL_fQuarantine ⟨os, zs⟩
    dsimp only at h2
    omega
  have HS0 : Hid (D.sz (dObjects os) ≤ 1048576) := by show _ ≤ _; omega
  have HS1 : Hid (D.sz (dAreas zs) ≤ 1048576) := by show _ ≤ _; omega
  clear hr0 hr3 hsz
  go_wp2_with fail
  refine (szObjectS_d l L nl cl r w2 0 w.heap.size HB2.out.size (HL.out.below HB2.out (Nat.le_refl _)) hr4 (by omega)).mono ?_
  rintro e w3 ⟨r2, hr5, hr6, hr7, hb, rfl⟩
  clear xc0 xc1 xl
  have HB3 := Lib.hid (bel_tr HB2.out (Nat.le_refl _) hb)
  have hs3 : w2.heap.size ≤ w3.heap.size := hb.size
  have Hx_3 := Lib.hid ((hb.block _ (hltS Hx_2.out)).trans Hx_2.out)
  clear hb
  have xc0 := cell_of_row _ _ 0 _ _ _ Hx_3.out
  have xc1 := cell_of_row _ _ 1 _ _ _ Hx_3.out
  have xl := hltS Hx_3.out
  by_cases hr0 : r2 < 0
  · go_wp2_with fail
    go_ret
    exact ⟨rfl, HB3.out⟩
  have HS2 : Hid (D.sz (dObjects l) ≤ 1048576) := by have h1 := hr7 (by omega); show _ ≤ _; omega
  have hr8 : 0 ≤ r2 := by omega
  clear hr0 hr7 hr5 hr6
  go_wp2_with fail
  have HC0 : Hid (D.cnt (dObjects os) + D.cnt (dAreas zs) ≤ 8000000) := Lib.hid (by have h1 := cnt_dObjects os; have h2 := cnt_dAreas zs; have h3 := HS0.out; have h4 := HS1.out; omega)
  have HC2 : Hid (D.cnt (dObjects l) ≤ 4000000) := Lib.hid (by have h1 := cnt_dObjects l; have h3 := HS2.out; omega)
  refine (toQuarantine_d os zs A0 n0 c0 A1 n1 c1 w3 0 w.heap.size HB3.out.size (HT.out.below HB3.out (Nat.le_refl _)) (HO.out.below HB3.out (Nat.le_refl _)) HS0.out HS1.out).mono ?_
  rintro e w4 ⟨Bp0, bp0, Bp1, bp1, ho, hb, rfl⟩
  have hI := ho.ivalL
  have Hpn : Hid (OwnLI w4 w3.heap.size w4.heap.size [dObjects os, dAreas zs] [.slice Bp0 n0 bp0, .slice Bp1 n1 bp1]) := Lib.hid hI
  clear xc0 xc1 xl
  have HB4 := Lib.hid (bel_tr HB3.out (Nat.le_refl _) hb)
  have hs4 : w3.heap.size ≤ w4.heap.size := hb.size
  have Hx_4 := Lib.hid ((hb.block _ (hltS Hx_3.out)).trans Hx_3.out)
  have Hp_4 := Hpn
  clear ho hb hI Hpn
  have xc0 := cell_of_row _ _ 0 _ _ _ Hx_4.out
  have xc1 := cell_of_row _ _ 1 _ _ _ Hx_4.out
  have xl := hltS Hx_4.out
  go_wp2_with fail
  refine (toObjectS_d l L nl cl w4 0 w.heap.size HB4.out.size (HL.out.below HB4.out (Nat.le_refl _)) HS2.out).mono ?_
  rintro e w5 ⟨Bpl, bpl, ho, hb, rfl⟩
  have Hpln : Hid (OwnI w5 w4.heap.size w5.heap.size (dObjects l) (.slice Bpl nl bpl)) := Lib.hid ho.ival
  clear xc0 xc1 xl
  have HB5 := Lib.hid (bel_tr HB4.out (Nat.le_refl _) hb)
  have hs5 : w4.heap.size ≤ w5.heap.size := hb.size
  have Hx_5 := Lib.hid ((hb.block _ (hltS Hx_4.out)).trans Hx_4.out)
  have Hp_5 := Lib.hid (Hp_4.out.below hb (by omega))
  have Hpl_5 := Hpln
  clear ho hb Hpln
  have xc0 := cell_of_row _ _ 0 _ _ _ Hx_5.out
  have xc1 := cell_of_row _ _ 1 _ _ _ Hx_5.out
  have xl := hltS Hx_5.out
  go_wp2_with fail
  refine (specQPut_any os zs t l Bp0 n0 bp0 Bp1 n1 bp1 Bpl nl bpl w5 w3.heap.size (w4.heap.size) w4.heap.size (w5.heap.size) (by omega) (by omega) Hp_5.out.rd2.1 Hp_5.out.rd2.2 Hpl_5.out.rd).mono ?_
  rintro e w6 ⟨AW, nW, cW, BW, mW, dW, hq, hb, rfl⟩
  have hI := hq.ival
  obtain ⟨rfl, rfl, -, -⟩ := hq.rd2
  obtain ⟨R, hR⟩ : ∃ Z, Z = quaPut ⟨os, zs⟩ t l := ⟨_, rfl⟩
  obtain ⟨b, hbb⟩ : ∃ z, z = quaPutB ⟨os, zs⟩ t l := ⟨_, rfl⟩
  have HR := Lib.hid hR
  have HBB := Lib.hid hbb
  rw [← hR] at hI
  rw [← hR, ← hbb]
  have HWn : Hid (OwnLI w6 w5.heap.size w6.heap.size [dObjects R.main, dAreas R.areas] [.slice AW R.main.length cW, .slice BW R.areas.length dW]) := Lib.hid hI
  clear hR hbb
  clear xc0 xc1 xl
  have HB6 := Lib.hid (bel_tr HB5.out (Nat.le_refl _) hb)
  have hs6 : w5.heap.size ≤ w6.heap.size := hb.size
  have Hx_6 := Lib.hid ((hb.block _ (hltS Hx_5.out)).trans Hx_5.out)
  have Hp_6 := Lib.hid (Hp_5.out.below hb (by omega))
  have Hpl_6 := Lib.hid (Hpl_5.out.below hb (by omega))
  have HW_6 := HWn
  clear hq hb hI HWn

  obtain ⟨u, hu⟩ : ∃ z, z = w6.heap.size := ⟨_, rfl⟩
  obtain ⟨w7, hw7⟩ : ∃ z, z = w6.alloc (.cells #[.slice AW R.main.length cW, .slice BW R.areas.length dW] 31) := ⟨_, rfl⟩
  have hb : Below w6.heap.size w6 w7 := by rw [hw7]; exact (Below.refl _ _).alloc (Nat.le_refl _) _
  have Hun : Hid (w7.heap[u]? = some (.cells #[.slice AW R.main.length cW, .slice BW R.areas.length dW] 31 (0, 0))) := by rw [hw7, hu]; exact Lib.hid (heap_alloc_new w6 _)
  have hub : w6.heap.size ≤ u ∧ u < w7.heap.size := ⟨by omega, hltS Hun.out⟩
  have HB7 := Lib.hid (bel_tr HB6.out (Nat.le_refl _) hb)
  have hs7 : w6.heap.size ≤ w7.heap.size := hb.size
  have Hx_7 := Lib.hid ((hb.block _ (hltS Hx_6.out)).trans Hx_6.out)
  have HW_7 := Lib.hid (HW_6.out.below hb (by omega))
  have Hu_7 := Hun
  clear hb Hun
  go_upto_region 9 with (fail)
  rw [← hw7, ← hu]
  clear hw7 hu
  have xc0 := cell_of_row _ _ 0 _ _ _ Hx_7.out
  have xc1 := cell_of_row _ _ 1 _ _ _ Hx_7.out
  have xl := hltS Hx_7.out
  have uc0 := cell_of_row _ _ 0 _ _ _ Hu_7.out
  have uc1 := cell_of_row _ _ 1 _ _ _ Hu_7.out
  have ul := hltS Hu_7.out
  have HVR : Hid (quaB R = true) := Lib.hid (by rw [HR.out]; exact quaB_put _ _ _)
  have HCR := Lib.hid (cnt_qua HVR.out)
  go_wp2_with fail
  refine (toQuarantine_d os zs A0 n0 c0 A1 n1 c1 w7 0 w.heap.size HB7.out.size (HT.out.below HB7.out (Nat.le_refl _)) (HO.out.below HB7.out (Nat.le_refl _)) HS0.out HS1.out).mono ?_
  rintro e w8 ⟨Bq0, bq0, Bq1, bq1, ho, hb, rfl⟩
  have hI := ho.ivalL
  have Hqn : Hid (OwnLI w8 w7.heap.size w8.heap.size [dObjects os, dAreas zs] [.slice Bq0 n0 bq0, .slice Bq1 n1 bq1]) := Lib.hid hI
  clear xc0 xc1 xl uc0 uc1 ul
  have HB8 := Lib.hid (bel_tr HB7.out (Nat.le_refl _) hb)
  have hs8 : w7.heap.size ≤ w8.heap.size := hb.size
  have Hx_8 := Lib.hid ((hb.block _ (hltS Hx_7.out)).trans Hx_7.out)
  have HW_8 := Lib.hid (HW_7.out.below hb (by omega))
  have Hu_8 := Lib.hid ((hb.block _ (hltS Hu_7.out)).trans Hu_7.out)
  have Hq_8 := Hqn
  clear ho hb hI Hqn
  have xc0 := cell_of_row _ _ 0 _ _ _ Hx_8.out
  have xc1 := cell_of_row _ _ 1 _ _ _ Hx_8.out
  have xl := hltS Hx_8.out
  have uc0 := cell_of_row _ _ 0 _ _ _ Hu_8.out
  have uc1 := cell_of_row _ _ 1 _ _ _ Hu_8.out
  have ul := hltS Hu_8.out
  obtain ⟨v, hv⟩ : ∃ z, z = w8.heap.size := ⟨_, rfl⟩
  obtain ⟨w9, hw9⟩ : ∃ z, z = w8.alloc (.cells #[.slice Bq0 n0 bq0, .slice Bq1 n1 bq1] 31) := ⟨_, rfl⟩
  have hb : Below w8.heap.size w8 w9 := by rw [hw9]; exact (Below.refl _ _).alloc (Nat.le_refl _) _
  have Hvn : Hid (w9.heap[v]? = some (.cells #[.slice Bq0 n0 bq0, .slice Bq1 n1 bq1] 31 (0, 0))) := by rw [hw9, hv]; exact Lib.hid (heap_alloc_new w8 _)
  have hvb : w8.heap.size ≤ v ∧ v < w9.heap.size := ⟨by omega, hltS Hvn.out⟩
  clear xc0 xc1 xl uc0 uc1 ul
  have HB9 := Lib.hid (bel_tr HB8.out (Nat.le_refl _) hb)
  have hs9 : w8.heap.size ≤ w9.heap.size := hb.size
  have Hx_9 := Lib.hid ((hb.block _ (hltS Hx_8.out)).trans Hx_8.out)
  have HW_9 := Lib.hid (HW_8.out.below hb (by omega))
  have Hu_9 := Lib.hid ((hb.block _ (hltS Hu_8.out)).trans Hu_8.out)
  have Hq_9 := Lib.hid (Hq_8.out.below hb (by omega))
  have Hv_9 := Hvn
  clear hb Hvn
  go_upto_region 10 with (fail)
  rw [← hw9, ← hv]
  clear hw9 hv
  have xc0 := cell_of_row _ _ 0 _ _ _ Hx_9.out
  have xc1 := cell_of_row _ _ 1 _ _ _ Hx_9.out
  have xl := hltS Hx_9.out
  have uc0 := cell_of_row _ _ 0 _ _ _ Hu_9.out
  have uc1 := cell_of_row _ _ 1 _ _ _ Hu_9.out
  have ul := hltS Hu_9.out
  have vc0 := cell_of_row _ _ 0 _ _ _ Hv_9.out
  have vc1 := cell_of_row _ _ 1 _ _ _ Hv_9.out
  have vl := hltS Hv_9.out
  go_wp2_with fail
  refine (toObjectS_d l L nl cl w9 0 w.heap.size HB9.out.size (HL.out.below HB9.out (Nat.le_refl _)) HS2.out).mono ?_
  rintro e w10 ⟨Bql, bql, ho, hb, rfl⟩
  have Hqln : Hid (OwnI w10 w9.heap.size w10.heap.size (dObjects l) (.slice Bql nl bql)) := Lib.hid ho.ival
  clear xc0 xc1 xl uc0 uc1 ul vc0 vc1 vl
  have HB10 := Lib.hid (bel_tr HB9.out (Nat.le_refl _) hb)
  have hs10 : w9.heap.size ≤ w10.heap.size := hb.size
  have Hx_10 := Lib.hid ((hb.block _ (hltS Hx_9.out)).trans Hx_9.out)
  have HW_10 := Lib.hid (HW_9.out.below hb (by omega))
  have Hu_10 := Lib.hid ((hb.block _ (hltS Hu_9.out)).trans Hu_9.out)
  have Hq_10 := Lib.hid (Hq_9.out.below hb (by omega))
  have Hv_10 := Lib.hid ((hb.block _ (hltS Hv_9.out)).trans Hv_9.out)
  have Hql_10 := Hqln
  clear ho hb Hqln
  have xc0 := cell_of_row _ _ 0 _ _ _ Hx_10.out
  have xc1 := cell_of_row _ _ 1 _ _ _ Hx_10.out
  have xl := hltS Hx_10.out
  have uc0 := cell_of_row _ _ 0 _ _ _ Hu_10.out
  have uc1 := cell_of_row _ _ 1 _ _ _ Hu_10.out
  have ul := hltS Hu_10.out
  have vc0 := cell_of_row _ _ 0 _ _ _ Hv_10.out
  have vc1 := cell_of_row _ _ 1 _ _ _ Hv_10.out
  have vl := hltS Hv_10.out
  go_wp2_with fail
  refine (implQPut_any os zs t l Bq0 n0 bq0 Bq1 n1 bq1 Bql nl bql w10 w7.heap.size (w8.heap.size) w9.heap.size (w10.heap.size) (by omega) (by omega) Hq_10.out.rd2.1 Hq_10.out.rd2.2 Hql_10.out.rd).mono ?_
  rintro e w11 ⟨AG, nG, cG, BG, mG, dG, hq, hb, rfl⟩
  have hI := hq.ival
  obtain ⟨rfl, rfl, -, -⟩ := hq.rd2
  have hR := HR.out
  have hbb := HBB.out
  rw [← hR] at hI
  rw [← hR, ← hbb]
  have HGn : Hid (OwnLI w11 w10.heap.size w11.heap.size [dObjects R.main, dAreas R.areas] [.slice AG R.main.length cG, .slice BG R.areas.length dG]) := Lib.hid hI
  clear hR hbb
  clear xc0 xc1 xl uc0 uc1 ul vc0 vc1 vl
  have HB11 := Lib.hid (bel_tr HB10.out (Nat.le_refl _) hb)
  have hs11 : w10.heap.size ≤ w11.heap.size := hb.size
  have Hx_11 := Lib.hid ((hb.block _ (hltS Hx_10.out)).trans Hx_10.out)
  have HW_11 := Lib.hid (HW_10.out.below hb (by omega))
  have Hu_11 := Lib.hid ((hb.block _ (hltS Hu_10.out)).trans Hu_10.out)
  have Hq_11 := Lib.hid (Hq_10.out.below hb (by omega))
  have Hv_11 := Lib.hid ((hb.block _ (hltS Hv_10.out)).trans Hv_10.out)
  have Hql_11 := Lib.hid (Hql_10.out.below hb (by omega))
  have HG_11 := HGn
  clear hq hb hI HGn
  obtain ⟨y, hy⟩ : ∃ z, z = w11.heap.size := ⟨_, rfl⟩
  obtain ⟨w12, hw12⟩ : ∃ z, z = w11.alloc (.cells #[.slice AG R.main.length cG, .slice BG R.areas.length dG] 31) := ⟨_, rfl⟩
  have hb : Below w11.heap.size w11 w12 := by rw [hw12]; exact (Below.refl _ _).alloc (Nat.le_refl _) _
  have Hyn : Hid (w12.heap[y]? = some (.cells #[.slice AG R.main.length cG, .slice BG R.areas.length dG] 31 (0, 0))) := by rw [hw12, hy]; exact Lib.hid (heap_alloc_new w11 _)
  have hyb : w11.heap.size ≤ y ∧ y < w12.heap.size := ⟨by omega, hltS Hyn.out⟩
  have HB12 := Lib.hid (bel_tr HB11.out (Nat.le_refl _) hb)
  have hs12 : w11.heap.size ≤ w12.heap.size := hb.size
  have Hx_12 := Lib.hid ((hb.block _ (hltS Hx_11.out)).trans Hx_11.out)
  have HW_12 := Lib.hid (HW_11.out.below hb (by omega))
  have Hu_12 := Lib.hid ((hb.block _ (hltS Hu_11.out)).trans Hu_11.out)
  have Hq_12 := Lib.hid (Hq_11.out.below hb (by omega))
  have Hv_12 := Lib.hid ((hb.block _ (hltS Hv_11.out)).trans Hv_11.out)
  have Hql_12 := Lib.hid (Hql_11.out.below hb (by omega))
  have HG_12 := Lib.hid (HG_11.out.below hb (by omega))
  have Hy_12 := Hyn
  clear hb Hyn
  go_upto_region 12 with (fail)
  rw [← hw12, ← hy]
  clear hw12 hy
  have xc0 := cell_of_row _ _ 0 _ _ _ Hx_12.out
  have xc1 := cell_of_row _ _ 1 _ _ _ Hx_12.out
  have xl := hltS Hx_12.out
  have uc0 := cell_of_row _ _ 0 _ _ _ Hu_12.out
  have uc1 := cell_of_row _ _ 1 _ _ _ Hu_12.out
  have ul := hltS Hu_12.out
  have vc0 := cell_of_row _ _ 0 _ _ _ Hv_12.out
  have vc1 := cell_of_row _ _ 1 _ _ _ Hv_12.out
  have vl := hltS Hv_12.out
  have yc0 := cell_of_row _ _ 0 _ _ _ Hy_12.out
  have yc1 := cell_of_row _ _ 1 _ _ _ Hy_12.out
  have yl := hltS Hy_12.out
  have hbn : (b != b) = false := by simp
  go_wp2_with fail
  refine (eqQuarantine_d R.main R.areas AG R.main.length cG BG R.areas.length dG AW R.main.length cW BW R.areas.length dW w12 w10.heap.size (w11.heap.size) w5.heap.size (w6.heap.size) (by omega) (by omega) HG_12.out.rd2.1 HG_12.out.rd2.2 HW_12.out.rd2.1 HW_12.out.rd2.2).mono ?_
  rintro e w13 ⟨rfl, hb⟩
  clear xc0 xc1 xl uc0 uc1 ul vc0 vc1 vl yc0 yc1 yl
  have HB13 := Lib.hid (bel_tr HB12.out (Nat.le_refl _) hb)
  have hs13 : w12.heap.size ≤ w13.heap.size := hb.size
  have Hx_13 := Lib.hid ((hb.block _ (hltS Hx_12.out)).trans Hx_12.out)
  have HW_13 := Lib.hid (HW_12.out.below hb (by omega))
  have Hu_13 := Lib.hid ((hb.block _ (hltS Hu_12.out)).trans Hu_12.out)
  have Hq_13 := Lib.hid (Hq_12.out.below hb (by omega))
  have Hv_13 := Lib.hid ((hb.block _ (hltS Hv_12.out)).trans Hv_12.out)
  have Hql_13 := Lib.hid (Hql_12.out.below hb (by omega))
  have HG_13 := Lib.hid (HG_12.out.below hb (by omega))
  have Hy_13 := Lib.hid ((hb.block _ (hltS Hy_12.out)).trans Hy_12.out)
  clear hb
  have xc0 := cell_of_row _ _ 0 _ _ _ Hx_13.out
  have xc1 := cell_of_row _ _ 1 _ _ _ Hx_13.out
  have xl := hltS Hx_13.out
  have uc0 := cell_of_row _ _ 0 _ _ _ Hu_13.out
  have uc1 := cell_of_row _ _ 1 _ _ _ Hu_13.out
  have ul := hltS Hu_13.out
  have vc0 := cell_of_row _ _ 0 _ _ _ Hv_13.out
  have vc1 := cell_of_row _ _ 1 _ _ _ Hv_13.out
  have vl := hltS Hv_13.out
  have yc0 := cell_of_row _ _ 0 _ _ _ Hy_13.out
  have yc1 := cell_of_row _ _ 1 _ _ _ Hy_13.out
  have yl := hltS Hy_13.out
  go_upto_region 14 with (fail)
  have HBd : Hid (Below w.heap.size w w13.drew) := Lib.hid HB13.out.drew
  have tok1 : True := trivial
  go_region_held_law (fun w' => w'.cell? ⟨v, 0, none⟩ = some (.slice Bq0 n0 bq0) ∧ w'.cell? ⟨v, 1, none⟩ = some (.slice Bq1 n1 bq1) ∧ w'.cell? ⟨x, 0, none⟩ = some (.slice A0 n0 c0) ∧ w'.cell? ⟨x, 1, none⟩ = some (.slice A1 n1 c1)) (go_keep)
    (first
      | (have _t := tok1; go_at_call 14; refine (toQuarantine_d os zs A0 n0 c0 A1 n1 c1 w13.drew 0 w.heap.size HBd.out.size (HT.out.below HBd.out (Nat.le_refl _)) (HO.out.below HBd.out (Nat.le_refl _)) HS0.out HS1.out).mono ?_; rintro e w14 ⟨Bz0, bz0, Bz1, bz1, ho, hbd, rfl⟩; have hb : Below w13.heap.size w13 w14 := below_of_drew hbd; have HZ : Hid (OwnLI w14 w13.heap.size w14.heap.size [dObjects os, dAreas zs] [.slice Bz0 n0 bz0, .slice Bz1 n1 bz1]) := Lib.hid ho.ivalL; have HB14 := Lib.hid (bel_tr HB13.out (Nat.le_refl _) hb); have hs14 : w13.heap.size ≤ w14.heap.size := hb.size; have Hx_14 := Lib.hid ((hb.block _ (hltS Hx_13.out)).trans Hx_13.out); have HW_14 := Lib.hid (HW_13.out.below hb (by omega)); have Hu_14 := Lib.hid ((hb.block _ (hltS Hu_13.out)).trans Hu_13.out); have Hq_14 := Lib.hid (Hq_13.out.below hb (by omega)); have Hv_14 := Lib.hid ((hb.block _ (hltS Hv_13.out)).trans Hv_13.out); have Hql_14 := Lib.hid (Hql_13.out.below hb (by omega)); have HG_14 := Lib.hid (HG_13.out.below hb (by omega)); have Hy_14 := Lib.hid ((hb.block _ (hltS Hy_13.out)).trans Hy_13.out); have f0 := cell_of_row _ _ 0 _ _ _ Hv_14.out; have f1 := cell_of_row _ _ 1 _ _ _ Hv_14.out; have fl := hltS Hv_14.out; have g0 := cell_of_row _ _ 0 _ _ _ Hx_14.out; have g1 := cell_of_row _ _ 1 _ _ _ Hx_14.out; have gl := hltS Hx_14.out; have tok2 : True := trivial; clear tok1 ho hbd hb)
      | (have _t := tok2; go_at_call 17; refine (eqQuarantine_d os zs Bq0 n0 bq0 Bq1 n1 bq1 Bz0 n0 bz0 Bz1 n1 bz1 w14 w7.heap.size (w8.heap.size) w13.heap.size w14.heap.size (by omega) (Nat.le_refl _) Hq_14.out.rd2.1 Hq_14.out.rd2.2 HZ.out.rd2.1 HZ.out.rd2.2).mono ?_; rintro e w15 ⟨rfl, hb2⟩; have HB15 := Lib.hid (bel_tr HB14.out (Nat.le_refl _) hb2); have hs15 : w14.heap.size ≤ w15.heap.size := hb2.size; have Hx_15 := Lib.hid ((hb2.block _ (hltS Hx_14.out)).trans Hx_14.out); have HW_15 := Lib.hid (HW_14.out.below hb2 (by omega)); have Hu_15 := Lib.hid ((hb2.block _ (hltS Hu_14.out)).trans Hu_14.out); have Hq_15 := Lib.hid (Hq_14.out.below hb2 (by omega)); have Hv_15 := Lib.hid ((hb2.block _ (hltS Hv_14.out)).trans Hv_14.out); have Hql_15 := Lib.hid (Hql_14.out.below hb2 (by omega)); have HG_15 := Lib.hid (HG_14.out.below hb2 (by omega)); have Hy_15 := Lib.hid ((hb2.block _ (hltS Hy_14.out)).trans Hy_14.out); have f0 := cell_of_row _ _ 0 _ _ _ Hv_15.out; have f1 := cell_of_row _ _ 1 _ _ _ Hv_15.out; have fl := hltS Hv_15.out; have g0 := cell_of_row _ _ 0 _ _ _ Hx_15.out; have g1 := cell_of_row _ _ 1 _ _ _ Hx_15.out; have gl := hltS Hx_15.out; clear tok2 hb2))
  all_goals
    clear xc0 xc1 xl uc0 uc1 ul vc0 vc1 vl yc0 yc1 yl
    have xc0 := cell_of_row _ _ 0 _ _ _ Hx_15.out
    have xc1 := cell_of_row _ _ 1 _ _ _ Hx_15.out
    have xl := hltS Hx_15.out
    have uc0 := cell_of_row _ _ 0 _ _ _ Hu_15.out
    have uc1 := cell_of_row _ _ 1 _ _ _ Hu_15.out
    have ul := hltS Hu_15.out
    have vc0 := cell_of_row _ _ 0 _ _ _ Hv_15.out
    have vc1 := cell_of_row _ _ 1 _ _ _ Hv_15.out
    have vl := hltS Hv_15.out
    have yc0 := cell_of_row _ _ 0 _ _ _ Hy_15.out
    have yc1 := cell_of_row _ _ 1 _ _ _ Hy_15.out
    have yl := hltS Hy_15.out
    go_wp2_with fail
    refine (toObjectS_d l L nl cl w15 0 w.heap.size HB15.out.size (HL.out.below HB15.out (Nat.le_refl _)) HS2.out).mono ?_
    rintro e w16 ⟨Bzl, bzl, ho, hb, rfl⟩
    have Hzln : Hid (OwnI w16 w15.heap.size w16.heap.size (dObjects l) (.slice Bzl nl bzl)) := Lib.hid ho.ival
    clear xc0 xc1 xl uc0 uc1 ul vc0 vc1 vl yc0 yc1 yl
    have HB16 := Lib.hid (bel_tr HB15.out (Nat.le_refl _) hb)
    have hs16 : w15.heap.size ≤ w16.heap.size := hb.size
    have Hx_16 := Lib.hid ((hb.block _ (hltS Hx_15.out)).trans Hx_15.out)
    have HW_16 := Lib.hid (HW_15.out.below hb (by omega))
    have Hu_16 := Lib.hid ((hb.block _ (hltS Hu_15.out)).trans Hu_15.out)
    have Hq_16 := Lib.hid (Hq_15.out.below hb (by omega))
    have Hv_16 := Lib.hid ((hb.block _ (hltS Hv_15.out)).trans Hv_15.out)
    have Hql_16 := Lib.hid (Hql_15.out.below hb (by omega))
    have HG_16 := Lib.hid (HG_15.out.below hb (by omega))
    have Hy_16 := Lib.hid ((hb.block _ (hltS Hy_15.out)).trans Hy_15.out)
    have Hzl_16 := Hzln
    clear ho hb Hzln
    have xc0 := cell_of_row _ _ 0 _ _ _ Hx_16.out
    have xc1 := cell_of_row _ _ 1 _ _ _ Hx_16.out
    have xl := hltS Hx_16.out
    have uc0 := cell_of_row _ _ 0 _ _ _ Hu_16.out
    have uc1 := cell_of_row _ _ 1 _ _ _ Hu_16.out
    have ul := hltS Hu_16.out
    have vc0 := cell_of_row _ _ 0 _ _ _ Hv_16.out
    have vc1 := cell_of_row _ _ 1 _ _ _ Hv_16.out
    have vl := hltS Hv_16.out
    have yc0 := cell_of_row _ _ 0 _ _ _ Hy_16.out
    have yc1 := cell_of_row _ _ 1 _ _ _ Hy_16.out
    have yl := hltS Hy_16.out
    go_wp2_with fail
    refine (eqObjectS_d l Bql Bzl nl nl bql bzl w16 w9.heap.size (w10.heap.size) w15.heap.size (w16.heap.size) (by omega) (by omega) Hql_16.out.rd Hzl_16.out.rd).mono ?_
    rintro e w17 ⟨rfl, hb⟩
    clear xc0 xc1 xl uc0 uc1 ul vc0 vc1 vl yc0 yc1 yl
    have HB17 := Lib.hid (bel_tr HB16.out (Nat.le_refl _) hb)
    have hs17 : w16.heap.size ≤ w17.heap.size := hb.size
    have Hx_17 := Lib.hid ((hb.block _ (hltS Hx_16.out)).trans Hx_16.out)
    have HW_17 := Lib.hid (HW_16.out.below hb (by omega))
    have Hu_17 := Lib.hid ((hb.block _ (hltS Hu_16.out)).trans Hu_16.out)
    have Hq_17 := Lib.hid (Hq_16.out.below hb (by omega))
    have Hv_17 := Lib.hid ((hb.block _ (hltS Hv_16.out)).trans Hv_16.out)
    have Hql_17 := Lib.hid (Hql_16.out.below hb (by omega))
    have HG_17 := Lib.hid (HG_16.out.below hb (by omega))
    have Hy_17 := Lib.hid ((hb.block _ (hltS Hy_16.out)).trans Hy_16.out)
    clear hb
    have xc0 := cell_of_row _ _ 0 _ _ _ Hx_17.out
    have xc1 := cell_of_row _ _ 1 _ _ _ Hx_17.out
    have xl := hltS Hx_17.out
    have uc0 := cell_of_row _ _ 0 _ _ _ Hu_17.out
    have uc1 := cell_of_row _ _ 1 _ _ _ Hu_17.out
    have ul := hltS Hu_17.out
    have vc0 := cell_of_row _ _ 0 _ _ _ Hv_17.out
    have vc1 := cell_of_row _ _ 1 _ _ _ Hv_17.out
    have vl := hltS Hv_17.out
    have yc0 := cell_of_row _ _ 0 _ _ _ Hy_17.out
    have yc1 := cell_of_row _ _ 1 _ _ _ Hy_17.out
    have yl := hltS Hy_17.out
    go_wp2_with fail
    refine (markQua_d os zs Bq0 n0 bq0 Bq1 n1 bq1 1 1 w7.heap.size (w8.heap.size) w17 rfl (by omega) (by omega) (by have := HC0.out; omega) Hq_17.out).mono ?_
    rintro e w18 ⟨F, hF, hc, hm0, hm1, rfl⟩
    obtain ⟨k1, hk1⟩ : ∃ z, z = 1 + D.cnt (dObjects os) + D.cnt (dAreas zs) := ⟨_, rfl⟩
    have Hk1 := Lib.hid hk1
    have hk1b : 1 ≤ k1 ∧ k1 ≤ 8000001 := by have := HC0.out; omega
    rw [← hk1]
    clear hk1
    have HM0n := Lib.hid hm0
    have HM1n := Lib.hid hm1
    clear xc0 xc1 xl uc0 uc1 ul vc0 vc1 vl yc0 yc1 yl
    have HB18 := Lib.hid (hc.below HB17.out (Nat.le_refl _) (fun g hg => by have := hF g hg; omega))
    have hs18 : w17.heap.size ≤ w18.heap.size := hc.2.2.2.1
    have Hx_18 := Lib.hid ((hc.2.2.2.2 x (hltS Hx_17.out) (fun hm => by have := hF _ hm; omega)).trans Hx_17.out)
    have HW_18 := Lib.hid (HW_17.out.chg hc (by omega) (fun g hg => by have := hF g hg; omega))
    have Hu_18 := Lib.hid ((hc.2.2.2.2 u (hltS Hu_17.out) (fun hm => by have := hF _ hm; omega)).trans Hu_17.out)
    have Hv_18 := Lib.hid ((hc.2.2.2.2 v (hltS Hv_17.out) (fun hm => by have := hF _ hm; omega)).trans Hv_17.out)
    have Hql_18 := Lib.hid (Hql_17.out.chg hc (by omega) (fun g hg => by have := hF g hg; omega))
    have HG_18 := Lib.hid (HG_17.out.chg hc (by omega) (fun g hg => by have := hF g hg; omega))
    have Hy_18 := Lib.hid ((hc.2.2.2.2 y (hltS Hy_17.out) (fun hm => by have := hF _ hm; omega)).trans Hy_17.out)
    clear hc hF hm0 hm1
    clear HM0n HM1n
    have xc0 := cell_of_row _ _ 0 _ _ _ Hx_18.out
    have xc1 := cell_of_row _ _ 1 _ _ _ Hx_18.out
    have xl := hltS Hx_18.out
    have uc0 := cell_of_row _ _ 0 _ _ _ Hu_18.out
    have uc1 := cell_of_row _ _ 1 _ _ _ Hu_18.out
    have ul := hltS Hu_18.out
    have vc0 := cell_of_row _ _ 0 _ _ _ Hv_18.out
    have vc1 := cell_of_row _ _ 1 _ _ _ Hv_18.out
    have vl := hltS Hv_18.out
    have yc0 := cell_of_row _ _ 0 _ _ _ Hy_18.out
    have yc1 := cell_of_row _ _ 1 _ _ _ Hy_18.out
    have yl := hltS Hy_18.out
    have hk1n : ¬ ((k1 : Int) < 0) := by omega
    go_wp2_with fail
    obtain ⟨F2, hF2⟩ := Hql_18.out
    refine (markObjectS_d l Bql nl bql k1 _ F2 w18 rfl (by omega) (by have := HC2.out; omega) hF2.1 (fun g hg => by have := (hF2.2.1 g hg).2; omega) hF2.2.2).mono ?_
    rintro e w19 ⟨-, hc, rfl⟩
    have hF := hF2.2.1
    obtain ⟨k2, hk2⟩ : ∃ z, z = k1 + D.cnt (dObjects l) := ⟨_, rfl⟩
    have hk2n : ¬ ((k2 : Int) < 0) := by omega
    have hk2b : k2 ≤ 13000000 := by have := HC2.out; omega
    rw [← hk2]
    clear hk2
    clear xc0 xc1 xl uc0 uc1 ul vc0 vc1 vl yc0 yc1 yl
    have HB19 := Lib.hid (hc.below HB18.out (Nat.le_refl _) (fun g hg => by have := hF g hg; omega))
    have hs19 : w18.heap.size ≤ w19.heap.size := hc.2.2.2.1
    have Hx_19 := Lib.hid ((hc.2.2.2.2 x (hltS Hx_18.out) (fun hm => by have := hF _ hm; omega)).trans Hx_18.out)
    have HW_19 := Lib.hid (HW_18.out.chg hc (by omega) (fun g hg => by have := hF g hg; omega))
    have Hu_19 := Lib.hid ((hc.2.2.2.2 u (hltS Hu_18.out) (fun hm => by have := hF _ hm; omega)).trans Hu_18.out)
    have Hv_19 := Lib.hid ((hc.2.2.2.2 v (hltS Hv_18.out) (fun hm => by have := hF _ hm; omega)).trans Hv_18.out)
    have HG_19 := Lib.hid (HG_18.out.chg hc (by omega) (fun g hg => by have := hF g hg; omega))
    have Hy_19 := Lib.hid ((hc.2.2.2.2 y (hltS Hy_18.out) (fun hm => by have := hF _ hm; omega)).trans Hy_18.out)
    clear hc hF hF2
    have xc0 := cell_of_row _ _ 0 _ _ _ Hx_19.out
    have xc1 := cell_of_row _ _ 1 _ _ _ Hx_19.out
    have xl := hltS Hx_19.out
    have uc0 := cell_of_row _ _ 0 _ _ _ Hu_19.out
    have uc1 := cell_of_row _ _ 1 _ _ _ Hu_19.out
    have ul := hltS Hu_19.out
    have vc0 := cell_of_row _ _ 0 _ _ _ Hv_19.out
    have vc1 := cell_of_row _ _ 1 _ _ _ Hv_19.out
    have vl := hltS Hv_19.out
    have yc0 := cell_of_row _ _ 0 _ _ _ Hy_19.out
    have yc1 := cell_of_row _ _ 1 _ _ _ Hy_19.out
    have yl := hltS Hy_19.out
    go_wp2_with fail
    refine (eqQuarantine_d R.main R.areas AG R.main.length cG BG R.areas.length dG AW R.main.length cW BW R.areas.length dW w19 w10.heap.size (w11.heap.size) w5.heap.size (w6.heap.size) (by omega) (by omega) HG_19.out.rd2.1 HG_19.out.rd2.2 HW_19.out.rd2.1 HW_19.out.rd2.2).mono ?_
    rintro e w20 ⟨rfl, hb⟩
    clear xc0 xc1 xl uc0 uc1 ul vc0 vc1 vl yc0 yc1 yl
    have HB20 := Lib.hid (bel_tr HB19.out (Nat.le_refl _) hb)
    have hs20 : w19.heap.size ≤ w20.heap.size := hb.size
    have Hx_20 := Lib.hid ((hb.block _ (hltS Hx_19.out)).trans Hx_19.out)
    have HW_20 := Lib.hid (HW_19.out.below hb (by omega))
    have Hu_20 := Lib.hid ((hb.block _ (hltS Hu_19.out)).trans Hu_19.out)
    have Hv_20 := Lib.hid ((hb.block _ (hltS Hv_19.out)).trans Hv_19.out)
    have HG_20 := Lib.hid (HG_19.out.below hb (by omega))
    have Hy_20 := Lib.hid ((hb.block _ (hltS Hy_19.out)).trans Hy_19.out)
    clear hb
    have xc0 := cell_of_row _ _ 0 _ _ _ Hx_20.out
    have xc1 := cell_of_row _ _ 1 _ _ _ Hx_20.out
    have xl := hltS Hx_20.out
    have uc0 := cell_of_row _ _ 0 _ _ _ Hu_20.out
    have uc1 := cell_of_row _ _ 1 _ _ _ Hu_20.out
    have ul := hltS Hu_20.out
    have vc0 := cell_of_row _ _ 0 _ _ _ Hv_20.out
    have vc1 := cell_of_row _ _ 1 _ _ _ Hv_20.out
    have vl := hltS Hv_20.out
    have yc0 := cell_of_row _ _ 0 _ _ _ Hy_20.out
    have yc1 := cell_of_row _ _ 1 _ _ _ Hy_20.out
    have yl := hltS Hy_20.out
    go_wp2_with fail
    refine (markQua_d R.main R.areas AG R.main.length cG BG R.areas.length dG 1 1 w10.heap.size (w11.heap.size) w20 rfl (by omega) (by omega) (by have := HCR.out; omega) HG_20.out).mono ?_
    rintro e w21 ⟨F, hF, hc, hm0, hm1, rfl⟩
    obtain ⟨m1, hm1⟩ : ∃ z, z = 1 + D.cnt (dObjects R.main) + D.cnt (dAreas R.areas) := ⟨_, rfl⟩
    have Hm1 := Lib.hid hm1
    have hm1b : 1 ≤ m1 ∧ m1 ≤ 8000001 := by have := HCR.out; omega
    rw [← hm1]
    clear hm1
    have HM0n := Lib.hid hm0
    have HM1n := Lib.hid hm1
    clear xc0 xc1 xl uc0 uc1 ul vc0 vc1 vl yc0 yc1 yl
    have HB21 := Lib.hid (hc.below HB20.out (Nat.le_refl _) (fun g hg => by have := hF g hg; omega))
    have hs21 : w20.heap.size ≤ w21.heap.size := hc.2.2.2.1
    have Hx_21 := Lib.hid ((hc.2.2.2.2 x (hltS Hx_20.out) (fun hm => by have := hF _ hm; omega)).trans Hx_20.out)
    have HW_21 := Lib.hid (HW_20.out.chg hc (by omega) (fun g hg => by have := hF g hg; omega))
    have Hu_21 := Lib.hid ((hc.2.2.2.2 u (hltS Hu_20.out) (fun hm => by have := hF _ hm; omega)).trans Hu_20.out)
    have Hv_21 := Lib.hid ((hc.2.2.2.2 v (hltS Hv_20.out) (fun hm => by have := hF _ hm; omega)).trans Hv_20.out)
    have Hy_21 := Lib.hid ((hc.2.2.2.2 y (hltS Hy_20.out) (fun hm => by have := hF _ hm; omega)).trans Hy_20.out)
    clear hc hF hm0 hm1
    have HM0_21 := HM0n
    have HM1_21 := HM1n
    clear HM0n HM1n
    have xc0 := cell_of_row _ _ 0 _ _ _ Hx_21.out
    have xc1 := cell_of_row _ _ 1 _ _ _ Hx_21.out
    have xl := hltS Hx_21.out
    have uc0 := cell_of_row _ _ 0 _ _ _ Hu_21.out
    have uc1 := cell_of_row _ _ 1 _ _ _ Hu_21.out
    have ul := hltS Hu_21.out
    have vc0 := cell_of_row _ _ 0 _ _ _ Hv_21.out
    have vc1 := cell_of_row _ _ 1 _ _ _ Hv_21.out
    have vl := hltS Hv_21.out
    have yc0 := cell_of_row _ _ 0 _ _ _ Hy_21.out
    have yc1 := cell_of_row _ _ 1 _ _ _ Hy_21.out
    have yl := hltS Hy_21.out
    have hm1n : ¬ ((m1 : Int) < 0) := by omega
    have hm1e : ((m1 : Int) != (m1 : Int)) = false := by simp
    go_wp2_with fail
    refine (heldQua_d R.main R.areas AG R.main.length cG BG R.areas.length dG 1 1 w10.heap.size (w11.heap.size) w21 rfl (by omega) (by omega) (by have := HCR.out; omega) HM0_21.out HM1_21.out).mono ?_
    rintro e w22 ⟨hb, rfl⟩
    rw [← Hm1.out]
    clear xc0 xc1 xl uc0 uc1 ul vc0 vc1 vl yc0 yc1 yl
    have HB22 := Lib.hid (bel_tr HB21.out (Nat.le_refl _) hb)
    have hs22 : w21.heap.size ≤ w22.heap.size := hb.size
    have Hx_22 := Lib.hid ((hb.block _ (hltS Hx_21.out)).trans Hx_21.out)
    have HW_22 := Lib.hid (HW_21.out.below hb (by omega))
    have Hu_22 := Lib.hid ((hb.block _ (hltS Hu_21.out)).trans Hu_21.out)
    have Hv_22 := Lib.hid ((hb.block _ (hltS Hv_21.out)).trans Hv_21.out)
    have Hy_22 := Lib.hid ((hb.block _ (hltS Hy_21.out)).trans Hy_21.out)
    have HM0_22 := Lib.hid (HM0_21.out.below hb (by omega))
    have HM1_22 := Lib.hid (HM1_21.out.below hb (by omega))
    clear hb
    have xc0 := cell_of_row _ _ 0 _ _ _ Hx_22.out
    have xc1 := cell_of_row _ _ 1 _ _ _ Hx_22.out
    have xl := hltS Hx_22.out
    have uc0 := cell_of_row _ _ 0 _ _ _ Hu_22.out
    have uc1 := cell_of_row _ _ 1 _ _ _ Hu_22.out
    have ul := hltS Hu_22.out
    have vc0 := cell_of_row _ _ 0 _ _ _ Hv_22.out
    have vc1 := cell_of_row _ _ 1 _ _ _ Hv_22.out
    have vl := hltS Hv_22.out
    have yc0 := cell_of_row _ _ 0 _ _ _ Hy_22.out
    have yc1 := cell_of_row _ _ 1 _ _ _ Hy_22.out
    have yl := hltS Hy_22.out
    go_wp2_with fail
    refine (toQuarantine_d os zs A0 n0 c0 A1 n1 c1 w22 0 w.heap.size HB22.out.size (HT.out.below HB22.out (Nat.le_refl _)) (HO.out.below HB22.out (Nat.le_refl _)) HS0.out HS1.out).mono ?_
    rintro e w23 ⟨Bh0, bh0, Bh1, bh1, ho, hb, rfl⟩
    have hI := ho.ivalL
    have Hhn : Hid (OwnLI w23 w22.heap.size w23.heap.size [dObjects os, dAreas zs] [.slice Bh0 n0 bh0, .slice Bh1 n1 bh1]) := Lib.hid hI
    clear xc0 xc1 xl uc0 uc1 ul vc0 vc1 vl yc0 yc1 yl
    have HB23 := Lib.hid (bel_tr HB22.out (Nat.le_refl _) hb)
    have hs23 : w22.heap.size ≤ w23.heap.size := hb.size
    have Hx_23 := Lib.hid ((hb.block _ (hltS Hx_22.out)).trans Hx_22.out)
    have HW_23 := Lib.hid (HW_22.out.below hb (by omega))
    have Hu_23 := Lib.hid ((hb.block _ (hltS Hu_22.out)).trans Hu_22.out)
    have Hv_23 := Lib.hid ((hb.block _ (hltS Hv_22.out)).trans Hv_22.out)
    have Hy_23 := Lib.hid ((hb.block _ (hltS Hy_22.out)).trans Hy_22.out)
    have HM0_23 := Lib.hid (HM0_22.out.below hb (by omega))
    have HM1_23 := Lib.hid (HM1_22.out.below hb (by omega))
    have Hh_23 := Hhn
    clear ho hb hI Hhn
    have xc0 := cell_of_row _ _ 0 _ _ _ Hx_23.out
    have xc1 := cell_of_row _ _ 1 _ _ _ Hx_23.out
    have xl := hltS Hx_23.out
    have uc0 := cell_of_row _ _ 0 _ _ _ Hu_23.out
    have uc1 := cell_of_row _ _ 1 _ _ _ Hu_23.out
    have ul := hltS Hu_23.out
    have vc0 := cell_of_row _ _ 0 _ _ _ Hv_23.out
    have vc1 := cell_of_row _ _ 1 _ _ _ Hv_23.out
    have vl := hltS Hv_23.out
    have yc0 := cell_of_row _ _ 0 _ _ _ Hy_23.out
    have yc1 := cell_of_row _ _ 1 _ _ _ Hy_23.out
    have yl := hltS Hy_23.out
    go_wp2_with fail
    refine (toObjectS_d l L nl cl w23 0 w.heap.size HB23.out.size (HL.out.below HB23.out (Nat.le_refl _)) HS2.out).mono ?_
    rintro e w24 ⟨Bhl, bhl, ho, hb, rfl⟩
    have Hhln : Hid (OwnI w24 w23.heap.size w24.heap.size (dObjects l) (.slice Bhl nl bhl)) := Lib.hid ho.ival
    clear xc0 xc1 xl uc0 uc1 ul vc0 vc1 vl yc0 yc1 yl
    have HB24 := Lib.hid (bel_tr HB23.out (Nat.le_refl _) hb)
    have hs24 : w23.heap.size ≤ w24.heap.size := hb.size
    have Hx_24 := Lib.hid ((hb.block _ (hltS Hx_23.out)).trans Hx_23.out)
    have HW_24 := Lib.hid (HW_23.out.below hb (by omega))
    have Hu_24 := Lib.hid ((hb.block _ (hltS Hu_23.out)).trans Hu_23.out)
    have Hv_24 := Lib.hid ((hb.block _ (hltS Hv_23.out)).trans Hv_23.out)
    have Hy_24 := Lib.hid ((hb.block _ (hltS Hy_23.out)).trans Hy_23.out)
    have HM0_24 := Lib.hid (HM0_23.out.below hb (by omega))
    have HM1_24 := Lib.hid (HM1_23.out.below hb (by omega))
    have Hh_24 := Lib.hid (Hh_23.out.below hb (by omega))
    have Hhl_24 := Hhln
    clear ho hb Hhln
    have xc0 := cell_of_row _ _ 0 _ _ _ Hx_24.out
    have xc1 := cell_of_row _ _ 1 _ _ _ Hx_24.out
    have xl := hltS Hx_24.out
    have uc0 := cell_of_row _ _ 0 _ _ _ Hu_24.out
    have uc1 := cell_of_row _ _ 1 _ _ _ Hu_24.out
    have ul := hltS Hu_24.out
    have vc0 := cell_of_row _ _ 0 _ _ _ Hv_24.out
    have vc1 := cell_of_row _ _ 1 _ _ _ Hv_24.out
    have vl := hltS Hv_24.out
    have yc0 := cell_of_row _ _ 0 _ _ _ Hy_24.out
    have yc1 := cell_of_row _ _ 1 _ _ _ Hy_24.out
    have yl := hltS Hy_24.out
    go_wp2_with fail
    refine (implQPut_any os zs t l Bh0 n0 bh0 Bh1 n1 bh1 Bhl nl bhl w24 w22.heap.size (w23.heap.size) w23.heap.size (w24.heap.size) (by omega) (by omega) Hh_24.out.rd2.1 Hh_24.out.rd2.2 Hhl_24.out.rd).mono ?_
    rintro e w25 ⟨AN, nN, cN, BN, mN, dN, hq, hb, rfl⟩
    have hI := hq.ival
    obtain ⟨rfl, rfl, -, -⟩ := hq.rd2
    have hR := HR.out
    have hbb := HBB.out
    rw [← hR] at hI
    rw [← hR, ← hbb]
    have HNn : Hid (OwnLI w25 w24.heap.size w25.heap.size [dObjects R.main, dAreas R.areas] [.slice AN R.main.length cN, .slice BN R.areas.length dN]) := Lib.hid hI
    clear hR hbb
    clear xc0 xc1 xl uc0 uc1 ul vc0 vc1 vl yc0 yc1 yl
    have HB25 := Lib.hid (bel_tr HB24.out (Nat.le_refl _) hb)
    have hs25 : w24.heap.size ≤ w25.heap.size := hb.size
    have Hx_25 := Lib.hid ((hb.block _ (hltS Hx_24.out)).trans Hx_24.out)
    have HW_25 := Lib.hid (HW_24.out.below hb (by omega))
    have Hu_25 := Lib.hid ((hb.block _ (hltS Hu_24.out)).trans Hu_24.out)
    have Hv_25 := Lib.hid ((hb.block _ (hltS Hv_24.out)).trans Hv_24.out)
    have Hy_25 := Lib.hid ((hb.block _ (hltS Hy_24.out)).trans Hy_24.out)
    have HM0_25 := Lib.hid (HM0_24.out.below hb (by omega))
    have HM1_25 := Lib.hid (HM1_24.out.below hb (by omega))
    have Hh_25 := Lib.hid (Hh_24.out.below hb (by omega))
    have Hhl_25 := Lib.hid (Hhl_24.out.below hb (by omega))
    have HN_25 := HNn
    clear hq hb hI HNn
    obtain ⟨z, hz⟩ : ∃ z, z = w25.heap.size := ⟨_, rfl⟩
    obtain ⟨w26, hw26⟩ : ∃ z, z = w25.alloc (.cells #[.slice AN R.main.length cN, .slice BN R.areas.length dN] 31) := ⟨_, rfl⟩
    have hb : Below w25.heap.size w25 w26 := by rw [hw26]; exact (Below.refl _ _).alloc (Nat.le_refl _) _
    have Hzn : Hid (w26.heap[z]? = some (.cells #[.slice AN R.main.length cN, .slice BN R.areas.length dN] 31 (0, 0))) := by rw [hw26, hz]; exact Lib.hid (heap_alloc_new w25 _)
    have hzb : w25.heap.size ≤ z ∧ z < w26.heap.size := ⟨by omega, hltS Hzn.out⟩
    have HB26 := Lib.hid (bel_tr HB25.out (Nat.le_refl _) hb)
    have hs26 : w25.heap.size ≤ w26.heap.size := hb.size
    have Hx_26 := Lib.hid ((hb.block _ (hltS Hx_25.out)).trans Hx_25.out)
    have HW_26 := Lib.hid (HW_25.out.below hb (by omega))
    have Hu_26 := Lib.hid ((hb.block _ (hltS Hu_25.out)).trans Hu_25.out)
    have Hv_26 := Lib.hid ((hb.block _ (hltS Hv_25.out)).trans Hv_25.out)
    have Hy_26 := Lib.hid ((hb.block _ (hltS Hy_25.out)).trans Hy_25.out)
    have HM0_26 := Lib.hid (HM0_25.out.below hb (by omega))
    have HM1_26 := Lib.hid (HM1_25.out.below hb (by omega))
    have HN_26 := Lib.hid (HN_25.out.below hb (by omega))
    have Hz_26 := Hzn
    clear hb Hzn
    go_upto_region 32 with (fail)
    rw [← hw26, ← hz]
    clear hw26 hz
    have xc0 := cell_of_row _ _ 0 _ _ _ Hx_26.out
    have xc1 := cell_of_row _ _ 1 _ _ _ Hx_26.out
    have xl := hltS Hx_26.out
    have uc0 := cell_of_row _ _ 0 _ _ _ Hu_26.out
    have uc1 := cell_of_row _ _ 1 _ _ _ Hu_26.out
    have ul := hltS Hu_26.out
    have vc0 := cell_of_row _ _ 0 _ _ _ Hv_26.out
    have vc1 := cell_of_row _ _ 1 _ _ _ Hv_26.out
    have vl := hltS Hv_26.out
    have yc0 := cell_of_row _ _ 0 _ _ _ Hy_26.out
    have yc1 := cell_of_row _ _ 1 _ _ _ Hy_26.out
    have yl := hltS Hy_26.out
    have zc0 := cell_of_row _ _ 0 _ _ _ Hz_26.out
    have zc1 := cell_of_row _ _ 1 _ _ _ Hz_26.out
    have zl := hltS Hz_26.out
    go_wp2_with fail
    refine (eqQuarantine_d R.main R.areas AN R.main.length cN BN R.areas.length dN AW R.main.length cW BW R.areas.length dW w26 w24.heap.size (w25.heap.size) w5.heap.size (w6.heap.size) (by omega) (by omega) HN_26.out.rd2.1 HN_26.out.rd2.2 HW_26.out.rd2.1 HW_26.out.rd2.2).mono ?_
    rintro e w27 ⟨rfl, hb⟩
    clear xc0 xc1 xl uc0 uc1 ul vc0 vc1 vl yc0 yc1 yl zc0 zc1 zl
    have HB27 := Lib.hid (bel_tr HB26.out (Nat.le_refl _) hb)
    have hs27 : w26.heap.size ≤ w27.heap.size := hb.size
    have Hx_27 := Lib.hid ((hb.block _ (hltS Hx_26.out)).trans Hx_26.out)
    have HW_27 := Lib.hid (HW_26.out.below hb (by omega))
    have Hu_27 := Lib.hid ((hb.block _ (hltS Hu_26.out)).trans Hu_26.out)
    have Hv_27 := Lib.hid ((hb.block _ (hltS Hv_26.out)).trans Hv_26.out)
    have Hy_27 := Lib.hid ((hb.block _ (hltS Hy_26.out)).trans Hy_26.out)
    have HM0_27 := Lib.hid (HM0_26.out.below hb (by omega))
    have HM1_27 := Lib.hid (HM1_26.out.below hb (by omega))
    have HN_27 := Lib.hid (HN_26.out.below hb (by omega))
    have Hz_27 := Lib.hid ((hb.block _ (hltS Hz_26.out)).trans Hz_26.out)
    clear hb
    have xc0 := cell_of_row _ _ 0 _ _ _ Hx_27.out
    have xc1 := cell_of_row _ _ 1 _ _ _ Hx_27.out
    have xl := hltS Hx_27.out
    have uc0 := cell_of_row _ _ 0 _ _ _ Hu_27.out
    have uc1 := cell_of_row _ _ 1 _ _ _ Hu_27.out
    have ul := hltS Hu_27.out
    have vc0 := cell_of_row _ _ 0 _ _ _ Hv_27.out
    have vc1 := cell_of_row _ _ 1 _ _ _ Hv_27.out
    have vl := hltS Hv_27.out
    have yc0 := cell_of_row _ _ 0 _ _ _ Hy_27.out
    have yc1 := cell_of_row _ _ 1 _ _ _ Hy_27.out
    have yl := hltS Hy_27.out
    have zc0 := cell_of_row _ _ 0 _ _ _ Hz_27.out
    have zc1 := cell_of_row _ _ 1 _ _ _ Hz_27.out
    have zl := hltS Hz_27.out
    go_wp2_with fail
    refine (heldQua_d R.main R.areas AG R.main.length cG BG R.areas.length dG 1 1 w10.heap.size (w11.heap.size) w27 rfl (by omega) (by omega) (by have := HCR.out; omega) HM0_27.out HM1_27.out).mono ?_
    rintro e w28 ⟨hb, rfl⟩
    rw [← Hm1.out]
    clear xc0 xc1 xl uc0 uc1 ul vc0 vc1 vl yc0 yc1 yl zc0 zc1 zl
    have HB28 := Lib.hid (bel_tr HB27.out (Nat.le_refl _) hb)
    have hs28 : w27.heap.size ≤ w28.heap.size := hb.size
    have Hx_28 := Lib.hid ((hb.block _ (hltS Hx_27.out)).trans Hx_27.out)
    have HW_28 := Lib.hid (HW_27.out.below hb (by omega))
    have Hu_28 := Lib.hid ((hb.block _ (hltS Hu_27.out)).trans Hu_27.out)
    have Hv_28 := Lib.hid ((hb.block _ (hltS Hv_27.out)).trans Hv_27.out)
    have Hy_28 := Lib.hid ((hb.block _ (hltS Hy_27.out)).trans Hy_27.out)
    have HM0_28 := Lib.hid (HM0_27.out.below hb (by omega))
    have HM1_28 := Lib.hid (HM1_27.out.below hb (by omega))
    have HN_28 := Lib.hid (HN_27.out.below hb (by omega))
    have Hz_28 := Lib.hid ((hb.block _ (hltS Hz_27.out)).trans Hz_27.out)
    clear hb
    have xc0 := cell_of_row _ _ 0 _ _ _ Hx_28.out
    have xc1 := cell_of_row _ _ 1 _ _ _ Hx_28.out
    have xl := hltS Hx_28.out
    have uc0 := cell_of_row _ _ 0 _ _ _ Hu_28.out
    have uc1 := cell_of_row _ _ 1 _ _ _ Hu_28.out
    have ul := hltS Hu_28.out
    have vc0 := cell_of_row _ _ 0 _ _ _ Hv_28.out
    have vc1 := cell_of_row _ _ 1 _ _ _ Hv_28.out
    have vl := hltS Hv_28.out
    have yc0 := cell_of_row _ _ 0 _ _ _ Hy_28.out
    have yc1 := cell_of_row _ _ 1 _ _ _ Hy_28.out
    have yl := hltS Hy_28.out
    have zc0 := cell_of_row _ _ 0 _ _ _ Hz_28.out
    have zc1 := cell_of_row _ _ 1 _ _ _ Hz_28.out
    have zl := hltS Hz_28.out
    go_wp2_with fail
    go_ret
    exact ⟨rfl, HB28.out⟩

set_option linter.unusedVariables false
set_option maxRecDepth 100000 in
theorem lifted (os : Os) (started : os.Started) (H : Type) (enc : TypeId × Value → H) :
    ReturnsInHanded {} Try.checked os 3 .any (Rows.fnExactQuarantinePutSpec.pre6 enc Try.prog Try.f3 Rows.fnExactQuarantinePutRow.domain false) (Rows.fnExactQuarantinePutSpec.post enc Try.prog Try.f3 false true false false) := by
  refine returnsInHanded_of_change (C := Try.checked) Try.own started (by kernel_rfl) Try.func3
    (ChangeSpec.witness6 (enc := enc) (C := Try.checked) false ⟨#[], #[.agg #[.slice none 0 0, .slice none 0 0], .int .i64 0, .slice none 0 0], []⟩ 8 (by kernel_rfl) (by kernel_rfl) (by kernel_rfl) (by kernel_rfl)) ?_
  intro W base args ds gs before hval0 hW hcnd _
  have hval : ∀ (j : Nat) t v, Try.f3.params[j]? = some t → args[j]? = some v → Value.okWide Try.prog W .any base t v := hval0
  have hW' := hW
  obtain ⟨p, q, hA0, hV, rfl, hfz, hnd⟩ := hW
  have hA : DataW.TrodAll enc Try.prog W 0 (fun _ => true) true Try.f3.params.toList args.toList ds p := hA0
  rw [Try.params3] at hA hval
  obtain ⟨v0, vs0, d0, ds0, p0, q0, hargs, rfl, rfl, h0, r0⟩ := trodAll_cons hA
  obtain ⟨v1, vs1, d1, ds1, p1, q1, rfl, rfl, rfl, h1, r1⟩ := trodAll_cons r0
  obtain ⟨v2, vs2, d2, ds2, p2, q2, rfl, rfl, rfl, h2, r2⟩ := trodAll_cons r1
  obtain ⟨rfl, rfl, rfl⟩ := trodAll_nil r2
  obtain rfl : args = #[v0, v1, v2] := by cases args; simp_all
  obtain ⟨rfl, rfl⟩ := trodVars_none hV
  have k0 := h0
  have lt0 : ∀ x ∈ p0, x.block < W.heap.size := by obtain ⟨m, hm⟩ := k0; exact DataW.trod_lt m _ _ _ hm
  obtain ⟨x0_0, x0_1, x0_2, x0_3, x0_4, x0_5, x0_6, x0_7, rfl, w0⟩ := open_Qua (hval 0 25 v0 rfl rfl) h0
  have k1 := h1
  have lt1 : ∀ x ∈ p1, x.block < W.heap.size := by obtain ⟨m, hm⟩ := k1; exact DataW.trod_lt m _ _ _ hm
  obtain ⟨n1, rfl, _, _, w1⟩ := open_int Try.underlying3 (hval 1 3 v1 rfl rfl) h1
  have k2 := h2
  have lt2 : ∀ x ∈ p2, x.block < W.heap.size := by obtain ⟨m, hm⟩ := k2; exact DataW.trod_lt m _ _ _ hm
  obtain ⟨a2, len2, cap2, z2, rfl, w2⟩ := open_Object (hval 2 22 v2 rfl rfl) h2
  clear hA0 hval0
  refine (walk x0_0 x0_1 x0_2 x0_3 x0_4 x0_5 x0_6 x0_7 n1 a2 len2 cap2 z2 W w0 w1 w2).mono fun e W' ⟨he, bel⟩ => ?_
  subst he
  exact ⟨_, rfl, _, _, _, [], _, [], hW', trodAll_mk1 (shut_bool Try.underlying4 _), (trodAll_cons_mk (Below.trod Try.laidOut (by kernel_rfl) (of_decide_eq_true (by kernel_rfl)) k0 bel lt0) (trodAll_cons_mk (Below.trod Try.laidOut (by kernel_rfl) (of_decide_eq_true (by kernel_rfl)) k1 bel lt1) (trodAll_cons_mk (Below.trod Try.laidOut (by kernel_rfl) (of_decide_eq_true (by kernel_rfl)) k2 bel lt2) trodAll_mk0))), rfl, bel.frame _, fun h => by cases h⟩

theorem proved : Rows.FnExactQuarantinePutSaid :=
  OpenClaim.holds_of_wide 3 Try.f3 rfl rfl rfl rfl rfl rfl rfl ⟨rfl, rfl, rfl, rfl, rfl⟩ rfl rfl rfl rfl rfl (by kernel_rfl) Try.func3 (by kernel_rfl)
    (of_decide_eq_true (by kernel_rfl)) (by unfold Func.isWrapper; first | (rw [if_pos (by decide +kernel)]; kernel_rfl) | (rw [if_neg (by decide +kernel)]; exact ⟨rfl, rfl⟩))
    (fun os started H enc _ => lifted os started H enc)

#print axioms proved
end Go.Proofs.Ytgpjcmplnigmcaa.fnExactQuarantinePut
