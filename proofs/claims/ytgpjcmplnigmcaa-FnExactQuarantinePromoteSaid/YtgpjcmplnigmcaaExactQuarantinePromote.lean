/-
  For all arguments: the program's QuarantinePromote returns what the reference's returns, leaves its arguments as they were, and shares no memory. No condition.
-/
import Derived.Test.YtgpjcmplnigmcaaCntQ
import Derived.Test.YtgpjcmplnigmcaaOQua
namespace Go.Proofs.Ytgpjcmplnigmcaa.fnExactQuarantinePromote
set_option linter.unusedVariables false
set_option linter.unusedSimpArgs false
open Go.ChangeShapes Go.WideShapes Go.ChangeAt Go.RowKit

set_option maxRecDepth 100000 in
set_option maxHeartbeats 6400000 in
theorem walk (A0 : Option Addr) (n0 c0 : Nat) (os : List ObjD) (A1 : Option Addr) (n1 c1 : Nat) (zs : List AreaD) (t : Int) (w : World) (w0 : D.rd w 0 w.heap.size (dObjects os) (.slice A0 n0 c0) ∧ D.rd w 0 w.heap.size (dAreas zs) (.slice A1 n1 c1)) (wn : (Lit.int .i64 t).wf = true) :
    Calls Try.prog 10 #[.agg #[.slice A0 n0 c0, .slice A1 n1 c1], .int .i64 t] w fun e w' => e = .returned (.bool true) ∧ Below w.heap.size w w' := by
  obtain ⟨hr0, hr1⟩ := w0
  have HT := Lib.hid hr0
  have HO := Lib.hid hr1
  obtain ⟨x, hx⟩ : ∃ z, z = w.heap.size := ⟨_, rfl⟩
  obtain ⟨w1, hw1⟩ : ∃ z, z = w.alloc (.cells #[.slice A0 n0 c0, .slice A1 n1 c1] 25) := ⟨_, rfl⟩
  have hb : Below w.heap.size w w1 := by rw [hw1]; exact (Below.refl _ _).alloc (Nat.le_refl _) _
  have Hx_1 : Hid (w1.heap[x]? = some (.cells #[.slice A0 n0 c0, .slice A1 n1 c1] 25 (0, 0))) := by rw [hw1, hx]; exact Lib.hid (heap_alloc_new w _)
  have hxb : w.heap.size ≤ x ∧ x < w1.heap.size := ⟨by omega, hltS Hx_1.out⟩
  have HB1 := Lib.hid hb
  have hs1 := hb.size
  clear hr0 hr1 wn  hb
  go_enter Try.func10, Try.ntmps10
  go_upto_region 1 with (fail)
  rw [← hw1, ← hx]
  clear hw1 hx
  have xc0 := cell_of_row _ _ 0 _ _ _ Hx_1.out
  have xc1 := cell_of_row _ _ 1 _ _ _ Hx_1.out
  have xl := hltS Hx_1.out
  go_wp2_with fail
  refine (szQuarantine_d os zs A0 n0 c0 A1 n1 c1 1048576 w1 0 w.heap.size HB1.out.size (HT.out.below HB1.out (Nat.le_refl _)) (HO.out.below HB1.out (Nat.le_refl _)) (by omega) (by omega)).mono ?_
  rintro e w2 ⟨r, hr1, hr2, hr3, hb, rfl⟩
  clear xc0 xc1 xl
  have HB2 := Lib.hid (bel_tr HB1.out (Nat.le_refl _) hb)
  have hs2 : w1.heap.size ≤ w2.heap.size := hb.size
  have Hx_2 := Lib.hid ((hb.block _ (hltS Hx_1.out)).trans Hx_1.out)
  clear hb
  have xc0 := cell_of_row _ _ 0 _ _ _ Hx_2.out
  have xc1 := cell_of_row _ _ 1 _ _ _ Hx_2.out
  have xl := hltS Hx_2.out
  by_cases hr0 : r < 0
  · go_wp2_with fail
    go_ret
    exact ⟨rfl, HB2.out⟩
  have hr4 : 0 ≤ r := by omega
  have hsz : D.sz (dObjects os) + D.sz (dAreas zs) ≤ 1048576 := by
    have h1 := hr3 hr4
    have h2 := szL_fQuarantine ⟨os, zs⟩
    dsimp only at h2
    omega
  have HS0 : Hid (D.sz (dObjects os) ≤ 1048576) := by show _ ≤ _; omega
  have HS1 : Hid (D.sz (dAreas zs) ≤ 1048576) := by show _ ≤ _; omega
  clear hr0 hr3 hsz
  go_wp2_with fail
  have HC0 : Hid (D.cnt (dObjects os) + D.cnt (dAreas zs) ≤ 8000000) := Lib.hid (by have h1 := cnt_dObjects os; have h2 := cnt_dAreas zs; have h3 := HS0.out; have h4 := HS1.out; omega)
  refine (toQuarantine_d os zs A0 n0 c0 A1 n1 c1 w2 0 w.heap.size HB2.out.size (HT.out.below HB2.out (Nat.le_refl _)) (HO.out.below HB2.out (Nat.le_refl _)) HS0.out HS1.out).mono ?_
  rintro e w3 ⟨Bp0, bp0, Bp1, bp1, ho, hb, rfl⟩
  have hI := ho.ivalL
  have Hpn : Hid (OwnLI w3 w2.heap.size w3.heap.size [dObjects os, dAreas zs] [.slice Bp0 n0 bp0, .slice Bp1 n1 bp1]) := Lib.hid hI
  clear xc0 xc1 xl
  have HB3 := Lib.hid (bel_tr HB2.out (Nat.le_refl _) hb)
  have hs3 : w2.heap.size ≤ w3.heap.size := hb.size
  have Hx_3 := Lib.hid ((hb.block _ (hltS Hx_2.out)).trans Hx_2.out)
  have Hp_3 := Hpn
  clear ho hb hI Hpn
  have xc0 := cell_of_row _ _ 0 _ _ _ Hx_3.out
  have xc1 := cell_of_row _ _ 1 _ _ _ Hx_3.out
  have xl := hltS Hx_3.out
  go_wp2_with fail
  refine (specPromote_any os zs t Bp0 n0 bp0 Bp1 n1 bp1 w3 w2.heap.size (w3.heap.size) (by omega) Hp_3.out.rd2.1 Hp_3.out.rd2.2).mono ?_
  rintro e w4 ⟨AW, nW, cW, BW, mW, dW, hq, hb, rfl⟩
  have hI := hq.ival
  obtain ⟨rfl, rfl, -, -⟩ := hq.rd2
  obtain ⟨R, hR⟩ : ∃ Z, Z = quaPro ⟨os, zs⟩ t := ⟨_, rfl⟩
  obtain ⟨b, hbb⟩ : ∃ z, z = quaProB ⟨os, zs⟩ t := ⟨_, rfl⟩
  have HR := Lib.hid hR
  have HBB := Lib.hid hbb
  rw [← hR] at hI
  rw [← hR, ← hbb]
  have HWn : Hid (OwnLI w4 w3.heap.size w4.heap.size [dObjects R.main, dAreas R.areas] [.slice AW R.main.length cW, .slice BW R.areas.length dW]) := Lib.hid hI
  clear hR hbb
  clear xc0 xc1 xl
  have HB4 := Lib.hid (bel_tr HB3.out (Nat.le_refl _) hb)
  have hs4 : w3.heap.size ≤ w4.heap.size := hb.size
  have Hx_4 := Lib.hid ((hb.block _ (hltS Hx_3.out)).trans Hx_3.out)
  have Hp_4 := Lib.hid (Hp_3.out.below hb (by omega))
  have HW_4 := HWn
  clear hq hb hI HWn

  obtain ⟨u, hu⟩ : ∃ z, z = w4.heap.size := ⟨_, rfl⟩
  obtain ⟨w5, hw5⟩ : ∃ z, z = w4.alloc (.cells #[.slice AW R.main.length cW, .slice BW R.areas.length dW] 31) := ⟨_, rfl⟩
  have hb : Below w4.heap.size w4 w5 := by rw [hw5]; exact (Below.refl _ _).alloc (Nat.le_refl _) _
  have Hun : Hid (w5.heap[u]? = some (.cells #[.slice AW R.main.length cW, .slice BW R.areas.length dW] 31 (0, 0))) := by rw [hw5, hu]; exact Lib.hid (heap_alloc_new w4 _)
  have hub : w4.heap.size ≤ u ∧ u < w5.heap.size := ⟨by omega, hltS Hun.out⟩
  have HB5 := Lib.hid (bel_tr HB4.out (Nat.le_refl _) hb)
  have hs5 : w4.heap.size ≤ w5.heap.size := hb.size
  have Hx_5 := Lib.hid ((hb.block _ (hltS Hx_4.out)).trans Hx_4.out)
  have HW_5 := Lib.hid (HW_4.out.below hb (by omega))
  have Hu_5 := Hun
  clear hb Hun
  go_upto_region 6 with (fail)
  rw [← hw5, ← hu]
  clear hw5 hu
  have xc0 := cell_of_row _ _ 0 _ _ _ Hx_5.out
  have xc1 := cell_of_row _ _ 1 _ _ _ Hx_5.out
  have xl := hltS Hx_5.out
  have uc0 := cell_of_row _ _ 0 _ _ _ Hu_5.out
  have uc1 := cell_of_row _ _ 1 _ _ _ Hu_5.out
  have ul := hltS Hu_5.out
  have HVR : Hid (quaB R = true) := Lib.hid (by rw [HR.out]; exact quaB_pro _ _)
  have HCR := Lib.hid (cnt_qua HVR.out)
  go_wp2_with fail
  refine (toQuarantine_d os zs A0 n0 c0 A1 n1 c1 w5 0 w.heap.size HB5.out.size (HT.out.below HB5.out (Nat.le_refl _)) (HO.out.below HB5.out (Nat.le_refl _)) HS0.out HS1.out).mono ?_
  rintro e w6 ⟨Bq0, bq0, Bq1, bq1, ho, hb, rfl⟩
  have hI := ho.ivalL
  have Hqn : Hid (OwnLI w6 w5.heap.size w6.heap.size [dObjects os, dAreas zs] [.slice Bq0 n0 bq0, .slice Bq1 n1 bq1]) := Lib.hid hI
  clear xc0 xc1 xl uc0 uc1 ul
  have HB6 := Lib.hid (bel_tr HB5.out (Nat.le_refl _) hb)
  have hs6 : w5.heap.size ≤ w6.heap.size := hb.size
  have Hx_6 := Lib.hid ((hb.block _ (hltS Hx_5.out)).trans Hx_5.out)
  have HW_6 := Lib.hid (HW_5.out.below hb (by omega))
  have Hu_6 := Lib.hid ((hb.block _ (hltS Hu_5.out)).trans Hu_5.out)
  have Hq_6 := Hqn
  clear ho hb hI Hqn
  have xc0 := cell_of_row _ _ 0 _ _ _ Hx_6.out
  have xc1 := cell_of_row _ _ 1 _ _ _ Hx_6.out
  have xl := hltS Hx_6.out
  have uc0 := cell_of_row _ _ 0 _ _ _ Hu_6.out
  have uc1 := cell_of_row _ _ 1 _ _ _ Hu_6.out
  have ul := hltS Hu_6.out
  obtain ⟨v, hv⟩ : ∃ z, z = w6.heap.size := ⟨_, rfl⟩
  obtain ⟨w7, hw7⟩ : ∃ z, z = w6.alloc (.cells #[.slice Bq0 n0 bq0, .slice Bq1 n1 bq1] 31) := ⟨_, rfl⟩
  have hb : Below w6.heap.size w6 w7 := by rw [hw7]; exact (Below.refl _ _).alloc (Nat.le_refl _) _
  have Hvn : Hid (w7.heap[v]? = some (.cells #[.slice Bq0 n0 bq0, .slice Bq1 n1 bq1] 31 (0, 0))) := by rw [hw7, hv]; exact Lib.hid (heap_alloc_new w6 _)
  have hvb : w6.heap.size ≤ v ∧ v < w7.heap.size := ⟨by omega, hltS Hvn.out⟩
  clear xc0 xc1 xl uc0 uc1 ul
  have HB7 := Lib.hid (bel_tr HB6.out (Nat.le_refl _) hb)
  have hs7 : w6.heap.size ≤ w7.heap.size := hb.size
  have Hx_7 := Lib.hid ((hb.block _ (hltS Hx_6.out)).trans Hx_6.out)
  have HW_7 := Lib.hid (HW_6.out.below hb (by omega))
  have Hu_7 := Lib.hid ((hb.block _ (hltS Hu_6.out)).trans Hu_6.out)
  have Hq_7 := Lib.hid (Hq_6.out.below hb (by omega))
  have Hv_7 := Hvn
  clear hb Hvn
  go_upto_region 7 with (fail)
  rw [← hw7, ← hv]
  clear hw7 hv
  have xc0 := cell_of_row _ _ 0 _ _ _ Hx_7.out
  have xc1 := cell_of_row _ _ 1 _ _ _ Hx_7.out
  have xl := hltS Hx_7.out
  have uc0 := cell_of_row _ _ 0 _ _ _ Hu_7.out
  have uc1 := cell_of_row _ _ 1 _ _ _ Hu_7.out
  have ul := hltS Hu_7.out
  have vc0 := cell_of_row _ _ 0 _ _ _ Hv_7.out
  have vc1 := cell_of_row _ _ 1 _ _ _ Hv_7.out
  have vl := hltS Hv_7.out
  go_wp2_with fail
  refine (implPromote_any os zs t Bq0 n0 bq0 Bq1 n1 bq1 w7 w5.heap.size (w6.heap.size) (by omega) Hq_7.out.rd2.1 Hq_7.out.rd2.2).mono ?_
  rintro e w8 ⟨AG, nG, cG, BG, mG, dG, hq, hb, rfl⟩
  have hI := hq.ival
  obtain ⟨rfl, rfl, -, -⟩ := hq.rd2
  have hR := HR.out
  have hbb := HBB.out
  rw [← hR] at hI
  rw [← hR, ← hbb]
  have HGn : Hid (OwnLI w8 w7.heap.size w8.heap.size [dObjects R.main, dAreas R.areas] [.slice AG R.main.length cG, .slice BG R.areas.length dG]) := Lib.hid hI
  clear hR hbb
  clear xc0 xc1 xl uc0 uc1 ul vc0 vc1 vl
  have HB8 := Lib.hid (bel_tr HB7.out (Nat.le_refl _) hb)
  have hs8 : w7.heap.size ≤ w8.heap.size := hb.size
  have Hx_8 := Lib.hid ((hb.block _ (hltS Hx_7.out)).trans Hx_7.out)
  have HW_8 := Lib.hid (HW_7.out.below hb (by omega))
  have Hu_8 := Lib.hid ((hb.block _ (hltS Hu_7.out)).trans Hu_7.out)
  have Hq_8 := Lib.hid (Hq_7.out.below hb (by omega))
  have Hv_8 := Lib.hid ((hb.block _ (hltS Hv_7.out)).trans Hv_7.out)
  have HG_8 := HGn
  clear hq hb hI HGn
  obtain ⟨y, hy⟩ : ∃ z, z = w8.heap.size := ⟨_, rfl⟩
  obtain ⟨w9, hw9⟩ : ∃ z, z = w8.alloc (.cells #[.slice AG R.main.length cG, .slice BG R.areas.length dG] 31) := ⟨_, rfl⟩
  have hb : Below w8.heap.size w8 w9 := by rw [hw9]; exact (Below.refl _ _).alloc (Nat.le_refl _) _
  have Hyn : Hid (w9.heap[y]? = some (.cells #[.slice AG R.main.length cG, .slice BG R.areas.length dG] 31 (0, 0))) := by rw [hw9, hy]; exact Lib.hid (heap_alloc_new w8 _)
  have hyb : w8.heap.size ≤ y ∧ y < w9.heap.size := ⟨by omega, hltS Hyn.out⟩
  have HB9 := Lib.hid (bel_tr HB8.out (Nat.le_refl _) hb)
  have hs9 : w8.heap.size ≤ w9.heap.size := hb.size
  have Hx_9 := Lib.hid ((hb.block _ (hltS Hx_8.out)).trans Hx_8.out)
  have HW_9 := Lib.hid (HW_8.out.below hb (by omega))
  have Hu_9 := Lib.hid ((hb.block _ (hltS Hu_8.out)).trans Hu_8.out)
  have Hq_9 := Lib.hid (Hq_8.out.below hb (by omega))
  have Hv_9 := Lib.hid ((hb.block _ (hltS Hv_8.out)).trans Hv_8.out)
  have HG_9 := Lib.hid (HG_8.out.below hb (by omega))
  have Hy_9 := Hyn
  clear hb Hyn
  go_upto_region 8 with (fail)
  rw [← hw9, ← hy]
  clear hw9 hy
  have xc0 := cell_of_row _ _ 0 _ _ _ Hx_9.out
  have xc1 := cell_of_row _ _ 1 _ _ _ Hx_9.out
  have xl := hltS Hx_9.out
  have uc0 := cell_of_row _ _ 0 _ _ _ Hu_9.out
  have uc1 := cell_of_row _ _ 1 _ _ _ Hu_9.out
  have ul := hltS Hu_9.out
  have vc0 := cell_of_row _ _ 0 _ _ _ Hv_9.out
  have vc1 := cell_of_row _ _ 1 _ _ _ Hv_9.out
  have vl := hltS Hv_9.out
  have yc0 := cell_of_row _ _ 0 _ _ _ Hy_9.out
  have yc1 := cell_of_row _ _ 1 _ _ _ Hy_9.out
  have yl := hltS Hy_9.out
  have hbn : (b != b) = false := by simp
  go_wp2_with fail
  refine (eqQuarantine_d R.main R.areas AG R.main.length cG BG R.areas.length dG AW R.main.length cW BW R.areas.length dW w9 w7.heap.size (w8.heap.size) w3.heap.size (w4.heap.size) (by omega) (by omega) HG_9.out.rd2.1 HG_9.out.rd2.2 HW_9.out.rd2.1 HW_9.out.rd2.2).mono ?_
  rintro e w10 ⟨rfl, hb⟩
  clear xc0 xc1 xl uc0 uc1 ul vc0 vc1 vl yc0 yc1 yl
  have HB10 := Lib.hid (bel_tr HB9.out (Nat.le_refl _) hb)
  have hs10 : w9.heap.size ≤ w10.heap.size := hb.size
  have Hx_10 := Lib.hid ((hb.block _ (hltS Hx_9.out)).trans Hx_9.out)
  have HW_10 := Lib.hid (HW_9.out.below hb (by omega))
  have Hu_10 := Lib.hid ((hb.block _ (hltS Hu_9.out)).trans Hu_9.out)
  have Hq_10 := Lib.hid (Hq_9.out.below hb (by omega))
  have Hv_10 := Lib.hid ((hb.block _ (hltS Hv_9.out)).trans Hv_9.out)
  have HG_10 := Lib.hid (HG_9.out.below hb (by omega))
  have Hy_10 := Lib.hid ((hb.block _ (hltS Hy_9.out)).trans Hy_9.out)
  clear hb
  have xc0 := cell_of_row _ _ 0 _ _ _ Hx_10.out
  have xc1 := cell_of_row _ _ 1 _ _ _ Hx_10.out
  have xl := hltS Hx_10.out
  have uc0 := cell_of_row _ _ 0 _ _ _ Hu_10.out
  have uc1 := cell_of_row _ _ 1 _ _ _ Hu_10.out
  have ul := hltS Hu_10.out
  have vc0 := cell_of_row _ _ 0 _ _ _ Hv_10.out
  have vc1 := cell_of_row _ _ 1 _ _ _ Hv_10.out
  have vl := hltS Hv_10.out
  have yc0 := cell_of_row _ _ 0 _ _ _ Hy_10.out
  have yc1 := cell_of_row _ _ 1 _ _ _ Hy_10.out
  have yl := hltS Hy_10.out
  go_upto_region 10 with (fail)
  have HBd : Hid (Below w.heap.size w w10.drew) := Lib.hid HB10.out.drew
  have tok1 : True := trivial
  go_region_held_law (fun w' => w'.cell? ⟨v, 0, none⟩ = some (.slice Bq0 n0 bq0) ∧ w'.cell? ⟨v, 1, none⟩ = some (.slice Bq1 n1 bq1) ∧ w'.cell? ⟨x, 0, none⟩ = some (.slice A0 n0 c0) ∧ w'.cell? ⟨x, 1, none⟩ = some (.slice A1 n1 c1)) (go_keep)
    (first
      | (have _t := tok1; go_at_call 14; refine (toQuarantine_d os zs A0 n0 c0 A1 n1 c1 w10.drew 0 w.heap.size HBd.out.size (HT.out.below HBd.out (Nat.le_refl _)) (HO.out.below HBd.out (Nat.le_refl _)) HS0.out HS1.out).mono ?_; rintro e w11 ⟨Bz0, bz0, Bz1, bz1, ho, hbd, rfl⟩; have hb : Below w10.heap.size w10 w11 := below_of_drew hbd; have HZ : Hid (OwnLI w11 w10.heap.size w11.heap.size [dObjects os, dAreas zs] [.slice Bz0 n0 bz0, .slice Bz1 n1 bz1]) := Lib.hid ho.ivalL; have HB11 := Lib.hid (bel_tr HB10.out (Nat.le_refl _) hb); have hs11 : w10.heap.size ≤ w11.heap.size := hb.size; have Hx_11 := Lib.hid ((hb.block _ (hltS Hx_10.out)).trans Hx_10.out); have HW_11 := Lib.hid (HW_10.out.below hb (by omega)); have Hu_11 := Lib.hid ((hb.block _ (hltS Hu_10.out)).trans Hu_10.out); have Hq_11 := Lib.hid (Hq_10.out.below hb (by omega)); have Hv_11 := Lib.hid ((hb.block _ (hltS Hv_10.out)).trans Hv_10.out); have HG_11 := Lib.hid (HG_10.out.below hb (by omega)); have Hy_11 := Lib.hid ((hb.block _ (hltS Hy_10.out)).trans Hy_10.out); have f0 := cell_of_row _ _ 0 _ _ _ Hv_11.out; have f1 := cell_of_row _ _ 1 _ _ _ Hv_11.out; have fl := hltS Hv_11.out; have g0 := cell_of_row _ _ 0 _ _ _ Hx_11.out; have g1 := cell_of_row _ _ 1 _ _ _ Hx_11.out; have gl := hltS Hx_11.out; have tok2 : True := trivial; clear tok1 ho hbd hb)
      | (have _t := tok2; go_at_call 17; refine (eqQuarantine_d os zs Bq0 n0 bq0 Bq1 n1 bq1 Bz0 n0 bz0 Bz1 n1 bz1 w11 w5.heap.size (w6.heap.size) w10.heap.size w11.heap.size (by omega) (Nat.le_refl _) Hq_11.out.rd2.1 Hq_11.out.rd2.2 HZ.out.rd2.1 HZ.out.rd2.2).mono ?_; rintro e w12 ⟨rfl, hb2⟩; have HB12 := Lib.hid (bel_tr HB11.out (Nat.le_refl _) hb2); have hs12 : w11.heap.size ≤ w12.heap.size := hb2.size; have Hx_12 := Lib.hid ((hb2.block _ (hltS Hx_11.out)).trans Hx_11.out); have HW_12 := Lib.hid (HW_11.out.below hb2 (by omega)); have Hu_12 := Lib.hid ((hb2.block _ (hltS Hu_11.out)).trans Hu_11.out); have Hq_12 := Lib.hid (Hq_11.out.below hb2 (by omega)); have Hv_12 := Lib.hid ((hb2.block _ (hltS Hv_11.out)).trans Hv_11.out); have HG_12 := Lib.hid (HG_11.out.below hb2 (by omega)); have Hy_12 := Lib.hid ((hb2.block _ (hltS Hy_11.out)).trans Hy_11.out); have f0 := cell_of_row _ _ 0 _ _ _ Hv_12.out; have f1 := cell_of_row _ _ 1 _ _ _ Hv_12.out; have fl := hltS Hv_12.out; have g0 := cell_of_row _ _ 0 _ _ _ Hx_12.out; have g1 := cell_of_row _ _ 1 _ _ _ Hx_12.out; have gl := hltS Hx_12.out; clear tok2 hb2))
  all_goals
    clear xc0 xc1 xl uc0 uc1 ul vc0 vc1 vl yc0 yc1 yl
    have xc0 := cell_of_row _ _ 0 _ _ _ Hx_12.out
    have xc1 := cell_of_row _ _ 1 _ _ _ Hx_12.out
    have xl := hltS Hx_12.out
    have uc0 := cell_of_row _ _ 0 _ _ _ Hu_12.out
    have uc1 := cell_of_row _ _ 1 _ _ _ Hu_12.out
    have ul := hltS Hu_12.out
    have vc0 := cell_of_row _ _ 0 _ _ _ Hv_12.out
    have vc1 := cell_of_row _ _ 1 _ _ _ Hv_12.out
    have vl := hltS Hv_12.out
    have yc0 := cell_of_row _ _ 0 _ _ _ Hy_12.out
    have yc1 := cell_of_row _ _ 1 _ _ _ Hy_12.out
    have yl := hltS Hy_12.out
    go_wp2_with fail
    refine (markQua_d os zs Bq0 n0 bq0 Bq1 n1 bq1 1 1 w5.heap.size (w6.heap.size) w12 rfl (by omega) (by omega) (by have := HC0.out; omega) Hq_12.out).mono ?_
    rintro e w13 ⟨F, hF, hc, hm0, hm1, rfl⟩
    obtain ⟨k1, hk1⟩ : ∃ z, z = 1 + D.cnt (dObjects os) + D.cnt (dAreas zs) := ⟨_, rfl⟩
    have Hk1 := Lib.hid hk1
    have hk1b : 1 ≤ k1 ∧ k1 ≤ 8000001 := by have := HC0.out; omega
    rw [← hk1]
    clear hk1
    have HM0n := Lib.hid hm0
    have HM1n := Lib.hid hm1
    clear xc0 xc1 xl uc0 uc1 ul vc0 vc1 vl yc0 yc1 yl
    have HB13 := Lib.hid (hc.below HB12.out (Nat.le_refl _) (fun g hg => by have := hF g hg; omega))
    have hs13 : w12.heap.size ≤ w13.heap.size := hc.2.2.2.1
    have Hx_13 := Lib.hid ((hc.2.2.2.2 x (hltS Hx_12.out) (fun hm => by have := hF _ hm; omega)).trans Hx_12.out)
    have HW_13 := Lib.hid (HW_12.out.chg hc (by omega) (fun g hg => by have := hF g hg; omega))
    have Hu_13 := Lib.hid ((hc.2.2.2.2 u (hltS Hu_12.out) (fun hm => by have := hF _ hm; omega)).trans Hu_12.out)
    have Hv_13 := Lib.hid ((hc.2.2.2.2 v (hltS Hv_12.out) (fun hm => by have := hF _ hm; omega)).trans Hv_12.out)
    have HG_13 := Lib.hid (HG_12.out.chg hc (by omega) (fun g hg => by have := hF g hg; omega))
    have Hy_13 := Lib.hid ((hc.2.2.2.2 y (hltS Hy_12.out) (fun hm => by have := hF _ hm; omega)).trans Hy_12.out)
    clear hc hF hm0 hm1
    clear HM0n HM1n
    have xc0 := cell_of_row _ _ 0 _ _ _ Hx_13.out
    have xc1 := cell_of_row _ _ 1 _ _ _ Hx_13.out
    have xl := hltS Hx_13.out
    have uc0 := cell_of_row _ _ 0 _ _ _ Hu_13.out
    have uc1 := cell_of_row _ _ 1 _ _ _ Hu_13.out
    have ul := hltS Hu_13.out
    have vc0 := cell_of_row _ _ 0 _ _ _ Hv_13.out
    have vc1 := cell_of_row _ _ 1 _ _ _ Hv_13.out
    have vl := hltS Hv_13.out
    have yc0 := cell_of_row _ _ 0 _ _ _ Hy_13.out
    have yc1 := cell_of_row _ _ 1 _ _ _ Hy_13.out
    have yl := hltS Hy_13.out
    have hk1n : ¬ ((k1 : Int) < 0) := by omega
    go_wp2_with fail
    refine (eqQuarantine_d R.main R.areas AG R.main.length cG BG R.areas.length dG AW R.main.length cW BW R.areas.length dW w13 w7.heap.size (w8.heap.size) w3.heap.size (w4.heap.size) (by omega) (by omega) HG_13.out.rd2.1 HG_13.out.rd2.2 HW_13.out.rd2.1 HW_13.out.rd2.2).mono ?_
    rintro e w14 ⟨rfl, hb⟩
    clear xc0 xc1 xl uc0 uc1 ul vc0 vc1 vl yc0 yc1 yl
    have HB14 := Lib.hid (bel_tr HB13.out (Nat.le_refl _) hb)
    have hs14 : w13.heap.size ≤ w14.heap.size := hb.size
    have Hx_14 := Lib.hid ((hb.block _ (hltS Hx_13.out)).trans Hx_13.out)
    have HW_14 := Lib.hid (HW_13.out.below hb (by omega))
    have Hu_14 := Lib.hid ((hb.block _ (hltS Hu_13.out)).trans Hu_13.out)
    have Hv_14 := Lib.hid ((hb.block _ (hltS Hv_13.out)).trans Hv_13.out)
    have HG_14 := Lib.hid (HG_13.out.below hb (by omega))
    have Hy_14 := Lib.hid ((hb.block _ (hltS Hy_13.out)).trans Hy_13.out)
    clear hb
    have xc0 := cell_of_row _ _ 0 _ _ _ Hx_14.out
    have xc1 := cell_of_row _ _ 1 _ _ _ Hx_14.out
    have xl := hltS Hx_14.out
    have uc0 := cell_of_row _ _ 0 _ _ _ Hu_14.out
    have uc1 := cell_of_row _ _ 1 _ _ _ Hu_14.out
    have ul := hltS Hu_14.out
    have vc0 := cell_of_row _ _ 0 _ _ _ Hv_14.out
    have vc1 := cell_of_row _ _ 1 _ _ _ Hv_14.out
    have vl := hltS Hv_14.out
    have yc0 := cell_of_row _ _ 0 _ _ _ Hy_14.out
    have yc1 := cell_of_row _ _ 1 _ _ _ Hy_14.out
    have yl := hltS Hy_14.out
    go_wp2_with fail
    refine (markQua_d R.main R.areas AG R.main.length cG BG R.areas.length dG 1 1 w7.heap.size (w8.heap.size) w14 rfl (by omega) (by omega) (by have := HCR.out; omega) HG_14.out).mono ?_
    rintro e w15 ⟨F, hF, hc, hm0, hm1, rfl⟩
    obtain ⟨m1, hm1⟩ : ∃ z, z = 1 + D.cnt (dObjects R.main) + D.cnt (dAreas R.areas) := ⟨_, rfl⟩
    have Hm1 := Lib.hid hm1
    have hm1b : 1 ≤ m1 ∧ m1 ≤ 8000001 := by have := HCR.out; omega
    rw [← hm1]
    clear hm1
    have HM0n := Lib.hid hm0
    have HM1n := Lib.hid hm1
    clear xc0 xc1 xl uc0 uc1 ul vc0 vc1 vl yc0 yc1 yl
    have HB15 := Lib.hid (hc.below HB14.out (Nat.le_refl _) (fun g hg => by have := hF g hg; omega))
    have hs15 : w14.heap.size ≤ w15.heap.size := hc.2.2.2.1
    have Hx_15 := Lib.hid ((hc.2.2.2.2 x (hltS Hx_14.out) (fun hm => by have := hF _ hm; omega)).trans Hx_14.out)
    have HW_15 := Lib.hid (HW_14.out.chg hc (by omega) (fun g hg => by have := hF g hg; omega))
    have Hu_15 := Lib.hid ((hc.2.2.2.2 u (hltS Hu_14.out) (fun hm => by have := hF _ hm; omega)).trans Hu_14.out)
    have Hv_15 := Lib.hid ((hc.2.2.2.2 v (hltS Hv_14.out) (fun hm => by have := hF _ hm; omega)).trans Hv_14.out)
    have Hy_15 := Lib.hid ((hc.2.2.2.2 y (hltS Hy_14.out) (fun hm => by have := hF _ hm; omega)).trans Hy_14.out)
    clear hc hF hm0 hm1
    have HM0_15 := HM0n
    have HM1_15 := HM1n
    clear HM0n HM1n
    have xc0 := cell_of_row _ _ 0 _ _ _ Hx_15.out
    have xc1 := cell_of_row _ _ 1 _ _ _ Hx_15.out
    have xl := hltS Hx_15.out
    have uc0 := cell_of_row _ _ 0 _ _ _ Hu_15.out
    have uc1 := cell_of_row _ _ 1 _ _ _ Hu_15.out
    have ul := hltS Hu_15.out
    have vc0 := cell_of_row _ _ 0 _ _ _ Hv_15.out
    have vc1 := cell_of_row _ _ 1 _ _ _ Hv_15.out
    have vl := hltS Hv_15.out
    have yc0 := cell_of_row _ _ 0 _ _ _ Hy_15.out
    have yc1 := cell_of_row _ _ 1 _ _ _ Hy_15.out
    have yl := hltS Hy_15.out
    have hm1n : ¬ ((m1 : Int) < 0) := by omega
    have hm1e : ((m1 : Int) != (m1 : Int)) = false := by simp
    go_wp2_with fail
    refine (heldQua_d R.main R.areas AG R.main.length cG BG R.areas.length dG 1 1 w7.heap.size (w8.heap.size) w15 rfl (by omega) (by omega) (by have := HCR.out; omega) HM0_15.out HM1_15.out).mono ?_
    rintro e w16 ⟨hb, rfl⟩
    rw [← Hm1.out]
    clear xc0 xc1 xl uc0 uc1 ul vc0 vc1 vl yc0 yc1 yl
    have HB16 := Lib.hid (bel_tr HB15.out (Nat.le_refl _) hb)
    have hs16 : w15.heap.size ≤ w16.heap.size := hb.size
    have Hx_16 := Lib.hid ((hb.block _ (hltS Hx_15.out)).trans Hx_15.out)
    have HW_16 := Lib.hid (HW_15.out.below hb (by omega))
    have Hu_16 := Lib.hid ((hb.block _ (hltS Hu_15.out)).trans Hu_15.out)
    have Hv_16 := Lib.hid ((hb.block _ (hltS Hv_15.out)).trans Hv_15.out)
    have Hy_16 := Lib.hid ((hb.block _ (hltS Hy_15.out)).trans Hy_15.out)
    have HM0_16 := Lib.hid (HM0_15.out.below hb (by omega))
    have HM1_16 := Lib.hid (HM1_15.out.below hb (by omega))
    clear hb
    have xc0 := cell_of_row _ _ 0 _ _ _ Hx_16.out
    have xc1 := cell_of_row _ _ 1 _ _ _ Hx_16.out
    have xl := hltS Hx_16.out
    have uc0 := cell_of_row _ _ 0 _ _ _ Hu_16.out
    have uc1 := cell_of_row _ _ 1 _ _ _ Hu_16.out
    have ul := hltS Hu_16.out
    have vc0 := cell_of_row _ _ 0 _ _ _ Hv_16.out
    have vc1 := cell_of_row _ _ 1 _ _ _ Hv_16.out
    have vl := hltS Hv_16.out
    have yc0 := cell_of_row _ _ 0 _ _ _ Hy_16.out
    have yc1 := cell_of_row _ _ 1 _ _ _ Hy_16.out
    have yl := hltS Hy_16.out
    go_wp2_with fail
    refine (toQuarantine_d os zs A0 n0 c0 A1 n1 c1 w16 0 w.heap.size HB16.out.size (HT.out.below HB16.out (Nat.le_refl _)) (HO.out.below HB16.out (Nat.le_refl _)) HS0.out HS1.out).mono ?_
    rintro e w17 ⟨Bh0, bh0, Bh1, bh1, ho, hb, rfl⟩
    have hI := ho.ivalL
    have Hhn : Hid (OwnLI w17 w16.heap.size w17.heap.size [dObjects os, dAreas zs] [.slice Bh0 n0 bh0, .slice Bh1 n1 bh1]) := Lib.hid hI
    clear xc0 xc1 xl uc0 uc1 ul vc0 vc1 vl yc0 yc1 yl
    have HB17 := Lib.hid (bel_tr HB16.out (Nat.le_refl _) hb)
    have hs17 : w16.heap.size ≤ w17.heap.size := hb.size
    have Hx_17 := Lib.hid ((hb.block _ (hltS Hx_16.out)).trans Hx_16.out)
    have HW_17 := Lib.hid (HW_16.out.below hb (by omega))
    have Hu_17 := Lib.hid ((hb.block _ (hltS Hu_16.out)).trans Hu_16.out)
    have Hv_17 := Lib.hid ((hb.block _ (hltS Hv_16.out)).trans Hv_16.out)
    have Hy_17 := Lib.hid ((hb.block _ (hltS Hy_16.out)).trans Hy_16.out)
    have HM0_17 := Lib.hid (HM0_16.out.below hb (by omega))
    have HM1_17 := Lib.hid (HM1_16.out.below hb (by omega))
    have Hh_17 := Hhn
    clear ho hb hI Hhn
    have xc0 := cell_of_row _ _ 0 _ _ _ Hx_17.out
    have xc1 := cell_of_row _ _ 1 _ _ _ Hx_17.out
    have xl := hltS Hx_17.out
    have uc0 := cell_of_row _ _ 0 _ _ _ Hu_17.out
    have uc1 := cell_of_row _ _ 1 _ _ _ Hu_17.out
    have ul := hltS Hu_17.out
    have vc0 := cell_of_row _ _ 0 _ _ _ Hv_17.out
    have vc1 := cell_of_row _ _ 1 _ _ _ Hv_17.out
    have vl := hltS Hv_17.out
    have yc0 := cell_of_row _ _ 0 _ _ _ Hy_17.out
    have yc1 := cell_of_row _ _ 1 _ _ _ Hy_17.out
    have yl := hltS Hy_17.out
    go_wp2_with fail
    refine (implPromote_any os zs t Bh0 n0 bh0 Bh1 n1 bh1 w17 w16.heap.size (w17.heap.size) (by omega) Hh_17.out.rd2.1 Hh_17.out.rd2.2).mono ?_
    rintro e w18 ⟨AN, nN, cN, BN, mN, dN, hq, hb, rfl⟩
    have hI := hq.ival
    obtain ⟨rfl, rfl, -, -⟩ := hq.rd2
    have hR := HR.out
    have hbb := HBB.out
    rw [← hR] at hI
    rw [← hR, ← hbb]
    have HNn : Hid (OwnLI w18 w17.heap.size w18.heap.size [dObjects R.main, dAreas R.areas] [.slice AN R.main.length cN, .slice BN R.areas.length dN]) := Lib.hid hI
    clear hR hbb
    clear xc0 xc1 xl uc0 uc1 ul vc0 vc1 vl yc0 yc1 yl
    have HB18 := Lib.hid (bel_tr HB17.out (Nat.le_refl _) hb)
    have hs18 : w17.heap.size ≤ w18.heap.size := hb.size
    have Hx_18 := Lib.hid ((hb.block _ (hltS Hx_17.out)).trans Hx_17.out)
    have HW_18 := Lib.hid (HW_17.out.below hb (by omega))
    have Hu_18 := Lib.hid ((hb.block _ (hltS Hu_17.out)).trans Hu_17.out)
    have Hv_18 := Lib.hid ((hb.block _ (hltS Hv_17.out)).trans Hv_17.out)
    have Hy_18 := Lib.hid ((hb.block _ (hltS Hy_17.out)).trans Hy_17.out)
    have HM0_18 := Lib.hid (HM0_17.out.below hb (by omega))
    have HM1_18 := Lib.hid (HM1_17.out.below hb (by omega))
    have Hh_18 := Lib.hid (Hh_17.out.below hb (by omega))
    have HN_18 := HNn
    clear hq hb hI HNn
    obtain ⟨z, hz⟩ : ∃ z, z = w18.heap.size := ⟨_, rfl⟩
    obtain ⟨w19, hw19⟩ : ∃ z, z = w18.alloc (.cells #[.slice AN R.main.length cN, .slice BN R.areas.length dN] 31) := ⟨_, rfl⟩
    have hb : Below w18.heap.size w18 w19 := by rw [hw19]; exact (Below.refl _ _).alloc (Nat.le_refl _) _
    have Hzn : Hid (w19.heap[z]? = some (.cells #[.slice AN R.main.length cN, .slice BN R.areas.length dN] 31 (0, 0))) := by rw [hw19, hz]; exact Lib.hid (heap_alloc_new w18 _)
    have hzb : w18.heap.size ≤ z ∧ z < w19.heap.size := ⟨by omega, hltS Hzn.out⟩
    have HB19 := Lib.hid (bel_tr HB18.out (Nat.le_refl _) hb)
    have hs19 : w18.heap.size ≤ w19.heap.size := hb.size
    have Hx_19 := Lib.hid ((hb.block _ (hltS Hx_18.out)).trans Hx_18.out)
    have HW_19 := Lib.hid (HW_18.out.below hb (by omega))
    have Hu_19 := Lib.hid ((hb.block _ (hltS Hu_18.out)).trans Hu_18.out)
    have Hv_19 := Lib.hid ((hb.block _ (hltS Hv_18.out)).trans Hv_18.out)
    have Hy_19 := Lib.hid ((hb.block _ (hltS Hy_18.out)).trans Hy_18.out)
    have HM0_19 := Lib.hid (HM0_18.out.below hb (by omega))
    have HM1_19 := Lib.hid (HM1_18.out.below hb (by omega))
    have HN_19 := Lib.hid (HN_18.out.below hb (by omega))
    have Hz_19 := Hzn
    clear hb Hzn
    go_upto_region 25 with (fail)
    rw [← hw19, ← hz]
    clear hw19 hz
    have xc0 := cell_of_row _ _ 0 _ _ _ Hx_19.out
    have xc1 := cell_of_row _ _ 1 _ _ _ Hx_19.out
    have xl := hltS Hx_19.out
    have uc0 := cell_of_row _ _ 0 _ _ _ Hu_19.out
    have uc1 := cell_of_row _ _ 1 _ _ _ Hu_19.out
    have ul := hltS Hu_19.out
    have vc0 := cell_of_row _ _ 0 _ _ _ Hv_19.out
    have vc1 := cell_of_row _ _ 1 _ _ _ Hv_19.out
    have vl := hltS Hv_19.out
    have yc0 := cell_of_row _ _ 0 _ _ _ Hy_19.out
    have yc1 := cell_of_row _ _ 1 _ _ _ Hy_19.out
    have yl := hltS Hy_19.out
    have zc0 := cell_of_row _ _ 0 _ _ _ Hz_19.out
    have zc1 := cell_of_row _ _ 1 _ _ _ Hz_19.out
    have zl := hltS Hz_19.out
    go_wp2_with fail
    refine (eqQuarantine_d R.main R.areas AN R.main.length cN BN R.areas.length dN AW R.main.length cW BW R.areas.length dW w19 w17.heap.size (w18.heap.size) w3.heap.size (w4.heap.size) (by omega) (by omega) HN_19.out.rd2.1 HN_19.out.rd2.2 HW_19.out.rd2.1 HW_19.out.rd2.2).mono ?_
    rintro e w20 ⟨rfl, hb⟩
    clear xc0 xc1 xl uc0 uc1 ul vc0 vc1 vl yc0 yc1 yl zc0 zc1 zl
    have HB20 := Lib.hid (bel_tr HB19.out (Nat.le_refl _) hb)
    have hs20 : w19.heap.size ≤ w20.heap.size := hb.size
    have Hx_20 := Lib.hid ((hb.block _ (hltS Hx_19.out)).trans Hx_19.out)
    have HW_20 := Lib.hid (HW_19.out.below hb (by omega))
    have Hu_20 := Lib.hid ((hb.block _ (hltS Hu_19.out)).trans Hu_19.out)
    have Hv_20 := Lib.hid ((hb.block _ (hltS Hv_19.out)).trans Hv_19.out)
    have Hy_20 := Lib.hid ((hb.block _ (hltS Hy_19.out)).trans Hy_19.out)
    have HM0_20 := Lib.hid (HM0_19.out.below hb (by omega))
    have HM1_20 := Lib.hid (HM1_19.out.below hb (by omega))
    have HN_20 := Lib.hid (HN_19.out.below hb (by omega))
    have Hz_20 := Lib.hid ((hb.block _ (hltS Hz_19.out)).trans Hz_19.out)
    clear hb
    have xc0 := cell_of_row _ _ 0 _ _ _ Hx_20.out
    have xc1 := cell_of_row _ _ 1 _ _ _ Hx_20.out
    have xl := hltS Hx_20.out
    have uc0 := cell_of_row _ _ 0 _ _ _ Hu_20.out
    have uc1 := cell_of_row _ _ 1 _ _ _ Hu_20.out
    have ul := hltS Hu_20.out
    have vc0 := cell_of_row _ _ 0 _ _ _ Hv_20.out
    have vc1 := cell_of_row _ _ 1 _ _ _ Hv_20.out
    have vl := hltS Hv_20.out
    have yc0 := cell_of_row _ _ 0 _ _ _ Hy_20.out
    have yc1 := cell_of_row _ _ 1 _ _ _ Hy_20.out
    have yl := hltS Hy_20.out
    have zc0 := cell_of_row _ _ 0 _ _ _ Hz_20.out
    have zc1 := cell_of_row _ _ 1 _ _ _ Hz_20.out
    have zl := hltS Hz_20.out
    go_wp2_with fail
    refine (heldQua_d R.main R.areas AG R.main.length cG BG R.areas.length dG 1 1 w7.heap.size (w8.heap.size) w20 rfl (by omega) (by omega) (by have := HCR.out; omega) HM0_20.out HM1_20.out).mono ?_
    rintro e w21 ⟨hb, rfl⟩
    rw [← Hm1.out]
    clear xc0 xc1 xl uc0 uc1 ul vc0 vc1 vl yc0 yc1 yl zc0 zc1 zl
    have HB21 := Lib.hid (bel_tr HB20.out (Nat.le_refl _) hb)
    have hs21 : w20.heap.size ≤ w21.heap.size := hb.size
    have Hx_21 := Lib.hid ((hb.block _ (hltS Hx_20.out)).trans Hx_20.out)
    have HW_21 := Lib.hid (HW_20.out.below hb (by omega))
    have Hu_21 := Lib.hid ((hb.block _ (hltS Hu_20.out)).trans Hu_20.out)
    have Hv_21 := Lib.hid ((hb.block _ (hltS Hv_20.out)).trans Hv_20.out)
    have Hy_21 := Lib.hid ((hb.block _ (hltS Hy_20.out)).trans Hy_20.out)
    have HM0_21 := Lib.hid (HM0_20.out.below hb (by omega))
    have HM1_21 := Lib.hid (HM1_20.out.below hb (by omega))
    have HN_21 := Lib.hid (HN_20.out.below hb (by omega))
    have Hz_21 := Lib.hid ((hb.block _ (hltS Hz_20.out)).trans Hz_20.out)
    clear hb
    have xc0 := cell_of_row _ _ 0 _ _ _ Hx_21.out
    have xc1 := cell_of_row _ _ 1 _ _ _ Hx_21.out
    have xl := hltS Hx_21.out
    have uc0 := cell_of_row _ _ 0 _ _ _ Hu_21.out
    have uc1 := cell_of_row _ _ 1 _ _ _ Hu_21.out
    have ul := hltS Hu_21.out
    have vc0 := cell_of_row _ _ 0 _ _ _ Hv_21.out
    have vc1 := cell_of_row _ _ 1 _ _ _ Hv_21.out
    have vl := hltS Hv_21.out
    have yc0 := cell_of_row _ _ 0 _ _ _ Hy_21.out
    have yc1 := cell_of_row _ _ 1 _ _ _ Hy_21.out
    have yl := hltS Hy_21.out
    have zc0 := cell_of_row _ _ 0 _ _ _ Hz_21.out
    have zc1 := cell_of_row _ _ 1 _ _ _ Hz_21.out
    have zl := hltS Hz_21.out
    go_wp2_with fail
    go_ret
    exact ⟨rfl, HB21.out⟩

set_option linter.unusedVariables false
set_option maxRecDepth 100000 in
theorem lifted (os : Os) (started : os.Started) (H : Type) (enc : TypeId × Value → H) :
    ReturnsInHanded {} Try.checked os 10 .any (Rows.fnExactQuarantinePromoteSpec.pre6 enc Try.prog Try.f10 Rows.fnExactQuarantinePromoteRow.domain false) (Rows.fnExactQuarantinePromoteSpec.post enc Try.prog Try.f10 false true false false) := by
  refine returnsInHanded_of_change (C := Try.checked) Try.own started (by kernel_rfl) Try.func10
    (ChangeSpec.witness6 (enc := enc) (C := Try.checked) false ⟨#[], #[.agg #[.slice none 0 0, .slice none 0 0], .int .i64 0], []⟩ 8 (by kernel_rfl) (by kernel_rfl) (by kernel_rfl) (by kernel_rfl)) ?_
  intro W base args ds gs before hval0 hW hcnd _
  have hval : ∀ (j : Nat) t v, Try.f10.params[j]? = some t → args[j]? = some v → Value.okWide Try.prog W .any base t v := hval0
  have hW' := hW
  obtain ⟨p, q, hA0, hV, rfl, hfz, hnd⟩ := hW
  have hA : DataW.TrodAll enc Try.prog W 0 (fun _ => true) true Try.f10.params.toList args.toList ds p := hA0
  rw [Try.params10] at hA hval
  obtain ⟨v0, vs0, d0, ds0, p0, q0, hargs, rfl, rfl, h0, r0⟩ := trodAll_cons hA
  obtain ⟨v1, vs1, d1, ds1, p1, q1, rfl, rfl, rfl, h1, r1⟩ := trodAll_cons r0
  obtain ⟨rfl, rfl, rfl⟩ := trodAll_nil r1
  obtain rfl : args = #[v0, v1] := by cases args; simp_all
  obtain ⟨rfl, rfl⟩ := trodVars_none hV
  have k0 := h0
  have lt0 : ∀ x ∈ p0, x.block < W.heap.size := by obtain ⟨m, hm⟩ := k0; exact DataW.trod_lt m _ _ _ hm
  obtain ⟨x0_0, x0_1, x0_2, x0_3, x0_4, x0_5, x0_6, x0_7, rfl, w0⟩ := open_Qua (hval 0 25 v0 rfl rfl) h0
  have k1 := h1
  have lt1 : ∀ x ∈ p1, x.block < W.heap.size := by obtain ⟨m, hm⟩ := k1; exact DataW.trod_lt m _ _ _ hm
  obtain ⟨n1, rfl, _, _, w1⟩ := open_int Try.underlying3 (hval 1 3 v1 rfl rfl) h1
  clear hA0 hval0
  refine (walk x0_0 x0_1 x0_2 x0_3 x0_4 x0_5 x0_6 x0_7 n1 W w0 w1).mono fun e W' ⟨he, bel⟩ => ?_
  subst he
  exact ⟨_, rfl, _, _, _, [], _, [], hW', trodAll_mk1 (shut_bool Try.underlying4 _), (trodAll_cons_mk (Below.trod Try.laidOut (by kernel_rfl) (of_decide_eq_true (by kernel_rfl)) k0 bel lt0) (trodAll_cons_mk (Below.trod Try.laidOut (by kernel_rfl) (of_decide_eq_true (by kernel_rfl)) k1 bel lt1) trodAll_mk0)), rfl, bel.frame _, fun h => by cases h⟩

theorem proved : Rows.FnExactQuarantinePromoteSaid :=
  OpenClaim.holds_of_wide 10 Try.f10 rfl rfl rfl rfl rfl rfl rfl ⟨rfl, rfl, rfl, rfl, rfl⟩ rfl rfl rfl rfl rfl (by kernel_rfl) Try.func10 (by kernel_rfl)
    (of_decide_eq_true (by kernel_rfl)) (by unfold Func.isWrapper; first | (rw [if_pos (by decide +kernel)]; kernel_rfl) | (rw [if_neg (by decide +kernel)]; exact ⟨rfl, rfl⟩))
    (fun os started H enc _ => lifted os started H enc)

#print axioms proved
end Go.Proofs.Ytgpjcmplnigmcaa.fnExactQuarantinePromote
