/-
  For all arguments: the program's FetchPack returns what the reference's returns, leaves its arguments as they were, and shares no memory. No condition.
-/
import Derived.Test.YtnaeglfochnikaaGreatFPack
import Derived.Test.YtnaeglfochnikaaGreatZ19
namespace Go.Proofs.YtnaeglfochnikaaGreat.fnExactFetchPack
set_option linter.unusedVariables false
set_option linter.unusedSimpArgs false
open Go.ChangeShapes Go.WideShapes Go.ChangeAt Go.RowKit

set_option maxRecDepth 100000 in
set_option maxHeartbeats 6400000 in
theorem walk (A0 : Option Addr) (n0 c0 : Nat) (os : List ObjD) (A1 : Option Addr) (n1 c1 : Nat) (ws : List Int) (A2 : Option Addr) (n2 c2 : Nat) (hs : List Int) (w : World) (w0 : D.rd w 0 w.heap.size (dObjects os) (.slice A0 n0 c0)) (w1 : D.rd w 0 w.heap.size (intsD ws) (.slice A1 n1 c1)) (w2 : D.rd w 0 w.heap.size (intsD hs) (.slice A2 n2 c2)) (mx : Int) (hmx : w.cell? ⟨0, 0, none⟩ = some (.int .i64 mx)) :
    Calls Tryz.prog 3 #[.slice A0 n0 c0, .slice A1 n1 c1, .slice A2 n2 c2] w fun e w' => e = .returned (.bool true) ∧ Below w.heap.size w w' := by
  have HS := Lib.hid w0
  have HW := Lib.hid w1
  have HH := Lib.hid w2
  have HB0 := Lib.hid (Below.refl w.heap.size w)
  have hl1 : n1 = ws.length := w1.len.1
  have hl2 : n2 = hs.length := w2.len.1
  have hm1 : n1 ≤ 9223372036854775807 := by have := w1.len; omega
  have hm2 : n2 ≤ 9223372036854775807 := by have := w2.len; omega
  have HMX := Lib.hid hmx
  have hgw : 0 < w.heap.size := World.block_lt_of_cell? _ _ hmx
  clear hmx
  clear w0 w1 w2
  by_cases hb1 : 1048576 < n1
  · go_enter Tryz.func3, Tryz.ntmps3
    go_wp2
    go_ret
    exact ⟨rfl, HB0.out⟩
  by_cases hb2 : 1048576 < n2
  · have hb3 : n1 ≤ 1048576 := by omega
    go_enter Tryz.func3, Tryz.ntmps3
    go_wp2
    go_ret
    exact ⟨rfl, HB0.out⟩
  have hb3 : n1 ≤ 1048576 := by omega
  have hb4 : n2 ≤ 1048576 := by omega
  have HZW : Hid (D.sz (intsD ws) ≤ 1048576) := Lib.hid (by rw [sz_ints]; omega)
  have HZH : Hid (D.sz (intsD hs) ≤ 1048576) := Lib.hid (by rw [sz_ints]; omega)
  have HCW : Hid (D.cnt (intsD ws) ≤ 1048576) := Lib.hid (by rw [cnt_ints]; omega)
  have HCH : Hid (D.cnt (intsD hs) ≤ 1048576) := Lib.hid (by rw [cnt_ints]; omega)
  clear hb1 hb2 hl1 hl2
  go_enter Tryz.func3, Tryz.ntmps3
  go_wp2_with fail
  refine (szObjectS_d os A0 n0 c0 1048576 w 0 w.heap.size (Nat.le_refl _) HS.out (by omega) (by omega)).mono ?_
  rintro e w1 ⟨r, hr1, hr2, hr3, hb, rfl⟩
  have HB1 := Lib.hid (bel_tr HB0.out (Nat.le_refl _) hb)
  have hs1 : w.heap.size ≤ w1.heap.size := hb.size
  clear hb
  by_cases hr0 : r < 0
  · go_wp2_with fail
    go_ret
    exact ⟨rfl, HB1.out⟩
  have hr4 : 0 ≤ r := by omega
  have HSZ : Hid (D.sz (dObjects os) ≤ 1048576) := Lib.hid (by have := hr3 hr4; omega)
  have HCS : Hid (D.cnt (dObjects os) ≤ 4000000) := Lib.hid (by have := cnt_dObjects os; have := HSZ.out; omega)
  clear hr0 hr3
  go_wp2_with fail
  refine (toObjectS_d os A0 n0 c0 w1 0 w.heap.size HB1.out.size (HS.out.below HB1.out (Nat.le_refl _)) HSZ.out).mono ?_
  rintro e w2 ⟨Bp, bp, ho, hb, rfl⟩
  have Hp_2 : Hid (OwnI w2 w1.heap.size w2.heap.size (dObjects os) (.slice Bp n0 bp)) := Lib.hid ho.ival
  have HB2 := Lib.hid (bel_tr HB1.out (Nat.le_refl _) hb)
  have hs2 : w1.heap.size ≤ w2.heap.size := hb.size
  clear ho hb
  go_wp2_with fail
  refine (toIntS_d ws A1 n1 c1 w2 0 w.heap.size HB2.out.size (HW.out.below HB2.out (Nat.le_refl _)) HZW.out).mono ?_
  rintro e w3 ⟨Bpw, bpw, ho, hb, rfl⟩
  have Hpw_3 : Hid (OwnI w3 w2.heap.size w3.heap.size (intsD ws) (.slice Bpw n1 bpw)) := Lib.hid ho.ival
  have HB3 := Lib.hid (bel_tr HB2.out (Nat.le_refl _) hb)
  have hs3 : w2.heap.size ≤ w3.heap.size := hb.size
  have Hp_3 := Lib.hid (Hp_2.out.below hb (by omega))
  clear Hp_2
  clear ho hb
  go_wp2_with fail
  refine (toIntS_d hs A2 n2 c2 w3 0 w.heap.size HB3.out.size (HH.out.below HB3.out (Nat.le_refl _)) HZH.out).mono ?_
  rintro e w4 ⟨Bph, bph, ho, hb, rfl⟩
  have Hph_4 : Hid (OwnI w4 w3.heap.size w4.heap.size (intsD hs) (.slice Bph n2 bph)) := Lib.hid ho.ival
  have HB4 := Lib.hid (bel_tr HB3.out (Nat.le_refl _) hb)
  have hs4 : w3.heap.size ≤ w4.heap.size := hb.size
  have Hp_4 := Lib.hid (Hp_3.out.below hb (by omega))
  have Hpw_4 := Lib.hid (Hpw_3.out.below hb (by omega))
  clear Hp_3 Hpw_3
  clear ho hb
  go_wp2_with fail
  refine (specFPack_any os ws hs Bp n0 bp Bpw n1 bpw Bph n2 bph w4 w1.heap.size (w4.heap.size) (by omega) (by omega) (by omega) (Hp_4.out.rd.more (by omega) (by omega)) (Hpw_4.out.rd.more (by omega) (by omega)).ints (Hph_4.out.rd.more (by omega) (by omega)).ints).mono ?_
  rintro e w5 ⟨AW, cW, ho, hb, rfl⟩
  obtain ⟨R, hR⟩ : ∃ Z, Z = fpackL os ws hs := ⟨_, rfl⟩
  obtain ⟨b, hbb⟩ : ∃ z, z = okF os ws hs := ⟨_, rfl⟩
  have HR := Lib.hid hR
  have HBB := Lib.hid hbb
  rw [← hR] at ho
  rw [← hbb, ← hR]
  have HW_5 : Hid (OwnI w5 w4.heap.size w5.heap.size (dPackEntrys R) (.slice AW R.length cW)) := Lib.hid ho.ival
  have HB5 := Lib.hid (bel_tr HB4.out (Nat.le_refl _) hb)
  have hs5 : w4.heap.size ≤ w5.heap.size := hb.size
  have Hp_5 := Lib.hid (Hp_4.out.below hb (by omega))
  have Hpw_5 := Lib.hid (Hpw_4.out.below hb (by omega))
  have Hph_5 := Lib.hid (Hph_4.out.below hb (by omega))
  clear Hp_4 Hpw_4 Hph_4
  clear ho hb hR hbb
  have HCR : Hid (D.cnt (dPackEntrys R) ≤ 100000) := Lib.hid (by rw [HR.out]; exact cnt_fpack os ws hs)
  have hbn : (b != b) = false := by simp
  go_wp2_with fail
  refine (toObjectS_d os A0 n0 c0 w5 0 w.heap.size HB5.out.size (HS.out.below HB5.out (Nat.le_refl _)) HSZ.out).mono ?_
  rintro e w6 ⟨Bq, bq, ho, hb, rfl⟩
  have Hq_6 : Hid (OwnI w6 w5.heap.size w6.heap.size (dObjects os) (.slice Bq n0 bq)) := Lib.hid ho.ival
  have HB6 := Lib.hid (bel_tr HB5.out (Nat.le_refl _) hb)
  have hs6 : w5.heap.size ≤ w6.heap.size := hb.size
  have HW_6 := Lib.hid (HW_5.out.below hb (by omega))
  clear HW_5
  clear ho hb
  go_wp2_with fail
  refine (toIntS_d ws A1 n1 c1 w6 0 w.heap.size HB6.out.size (HW.out.below HB6.out (Nat.le_refl _)) HZW.out).mono ?_
  rintro e w7 ⟨Bqw, bqw, ho, hb, rfl⟩
  have Hqw_7 : Hid (OwnI w7 w6.heap.size w7.heap.size (intsD ws) (.slice Bqw n1 bqw)) := Lib.hid ho.ival
  have HB7 := Lib.hid (bel_tr HB6.out (Nat.le_refl _) hb)
  have hs7 : w6.heap.size ≤ w7.heap.size := hb.size
  have HW_7 := Lib.hid (HW_6.out.below hb (by omega))
  have Hq_7 := Lib.hid (Hq_6.out.below hb (by omega))
  clear HW_6 Hq_6
  clear ho hb
  go_wp2_with fail
  refine (toIntS_d hs A2 n2 c2 w7 0 w.heap.size HB7.out.size (HH.out.below HB7.out (Nat.le_refl _)) HZH.out).mono ?_
  rintro e w8 ⟨Bqh, bqh, ho, hb, rfl⟩
  have Hqh_8 : Hid (OwnI w8 w7.heap.size w8.heap.size (intsD hs) (.slice Bqh n2 bqh)) := Lib.hid ho.ival
  have HB8 := Lib.hid (bel_tr HB7.out (Nat.le_refl _) hb)
  have hs8 : w7.heap.size ≤ w8.heap.size := hb.size
  have HW_8 := Lib.hid (HW_7.out.below hb (by omega))
  have Hq_8 := Lib.hid (Hq_7.out.below hb (by omega))
  have Hqw_8 := Lib.hid (Hqw_7.out.below hb (by omega))
  clear HW_7 Hq_7 Hqw_7
  clear ho hb
  go_wp2_with fail
  refine (implFPack_any os ws hs Bq n0 bq Bqw n1 bqw Bqh n2 bqh mx w8 w5.heap.size (w8.heap.size) (by omega) (by omega) (by omega) ((HB8.out.cell hgw).trans HMX.out) (Hq_8.out.rd.more (by omega) (by omega)) (Hqw_8.out.rd.more (by omega) (by omega)).ints (Hqh_8.out.rd.more (by omega) (by omega)).ints).mono ?_
  rintro e w9 ⟨AG, cG, ho, hb, rfl⟩
  have hR := HR.out
  have hbb := HBB.out
  rw [← hR] at ho
  rw [← hbb, ← hR]
  have HG_9 : Hid (OwnI w9 w8.heap.size w9.heap.size (dPackEntrys R) (.slice AG R.length cG)) := Lib.hid ho.ival
  have HB9 := Lib.hid (bel_tr HB8.out (Nat.le_refl _) hb)
  have hs9 : w8.heap.size ≤ w9.heap.size := hb.size
  have HW_9 := Lib.hid (HW_8.out.below hb (by omega))
  have Hq_9 := Lib.hid (Hq_8.out.below hb (by omega))
  have Hqw_9 := Lib.hid (Hqw_8.out.below hb (by omega))
  have Hqh_9 := Lib.hid (Hqh_8.out.below hb (by omega))
  clear HW_8 Hq_8 Hqw_8 Hqh_8
  clear ho hb hR hbb
  go_wp2_with fail
  refine (eqPackEntryS_d R AG AW R.length R.length cG cW w9 w8.heap.size (w9.heap.size) w4.heap.size (w5.heap.size) (by omega) (by omega) HG_9.out.rd HW_9.out.rd).mono ?_
  rintro e w10 ⟨rfl, hb⟩
  have HB10 := Lib.hid (bel_tr HB9.out (Nat.le_refl _) hb)
  have hs10 : w9.heap.size ≤ w10.heap.size := hb.size
  have HW_10 := Lib.hid (HW_9.out.below hb (by omega))
  have Hq_10 := Lib.hid (Hq_9.out.below hb (by omega))
  have Hqw_10 := Lib.hid (Hqw_9.out.below hb (by omega))
  have Hqh_10 := Lib.hid (Hqh_9.out.below hb (by omega))
  have HG_10 := Lib.hid (HG_9.out.below hb (by omega))
  clear HW_9 Hq_9 Hqw_9 Hqh_9 HG_9
  clear hb
  go_wp2_with fail
  refine (toObjectS_d os A0 n0 c0 w10 0 w.heap.size HB10.out.size (HS.out.below HB10.out (Nat.le_refl _)) HSZ.out).mono ?_
  rintro e w11 ⟨Bzs, bzs, ho, hb, rfl⟩
  have Hzs_11 : Hid (OwnI w11 w10.heap.size w11.heap.size (dObjects os) (.slice Bzs n0 bzs)) := Lib.hid ho.ival
  have HB11 := Lib.hid (bel_tr HB10.out (Nat.le_refl _) hb)
  have hs11 : w10.heap.size ≤ w11.heap.size := hb.size
  have HW_11 := Lib.hid (HW_10.out.below hb (by omega))
  have Hq_11 := Lib.hid (Hq_10.out.below hb (by omega))
  have Hqw_11 := Lib.hid (Hqw_10.out.below hb (by omega))
  have Hqh_11 := Lib.hid (Hqh_10.out.below hb (by omega))
  have HG_11 := Lib.hid (HG_10.out.below hb (by omega))
  clear HW_10 Hq_10 Hqw_10 Hqh_10 HG_10
  clear ho hb
  go_wp2_with fail
  refine (eqObjectS_d os Bq Bzs n0 n0 bq bzs w11 w5.heap.size (w6.heap.size) w10.heap.size (w11.heap.size) (by omega) (by omega) Hq_11.out.rd Hzs_11.out.rd).mono ?_
  rintro e w12 ⟨rfl, hb⟩
  have HB12 := Lib.hid (bel_tr HB11.out (Nat.le_refl _) hb)
  have hs12 : w11.heap.size ≤ w12.heap.size := hb.size
  have HW_12 := Lib.hid (HW_11.out.below hb (by omega))
  have Hq_12 := Lib.hid (Hq_11.out.below hb (by omega))
  have Hqw_12 := Lib.hid (Hqw_11.out.below hb (by omega))
  have Hqh_12 := Lib.hid (Hqh_11.out.below hb (by omega))
  have HG_12 := Lib.hid (HG_11.out.below hb (by omega))
  have Hzs_12 := Lib.hid (Hzs_11.out.below hb (by omega))
  clear HW_11 Hq_11 Hqw_11 Hqh_11 HG_11 Hzs_11
  clear hb
  go_wp2_with fail
  refine (toIntS_d ws A1 n1 c1 w12 0 w.heap.size HB12.out.size (HW.out.below HB12.out (Nat.le_refl _)) HZW.out).mono ?_
  rintro e w13 ⟨Bzw, bzw, ho, hb, rfl⟩
  have Hzw_13 : Hid (OwnI w13 w12.heap.size w13.heap.size (intsD ws) (.slice Bzw n1 bzw)) := Lib.hid ho.ival
  have HB13 := Lib.hid (bel_tr HB12.out (Nat.le_refl _) hb)
  have hs13 : w12.heap.size ≤ w13.heap.size := hb.size
  have HW_13 := Lib.hid (HW_12.out.below hb (by omega))
  have Hq_13 := Lib.hid (Hq_12.out.below hb (by omega))
  have Hqw_13 := Lib.hid (Hqw_12.out.below hb (by omega))
  have Hqh_13 := Lib.hid (Hqh_12.out.below hb (by omega))
  have HG_13 := Lib.hid (HG_12.out.below hb (by omega))
  clear HW_12 Hq_12 Hqw_12 Hqh_12 HG_12
  clear ho hb
  go_wp2_with fail
  refine (eqIntS_d ws Bqw Bzw n1 n1 bqw bzw w13 w6.heap.size (w7.heap.size) w12.heap.size (w13.heap.size) Hqw_13.out.rd Hzw_13.out.rd).mono ?_
  rintro e w14 ⟨rfl, hb⟩
  have HB14 := Lib.hid (bel_tr HB13.out (Nat.le_refl _) hb)
  have hs14 : w13.heap.size ≤ w14.heap.size := hb.size
  have HW_14 := Lib.hid (HW_13.out.below hb (by omega))
  have Hq_14 := Lib.hid (Hq_13.out.below hb (by omega))
  have Hqw_14 := Lib.hid (Hqw_13.out.below hb (by omega))
  have Hqh_14 := Lib.hid (Hqh_13.out.below hb (by omega))
  have HG_14 := Lib.hid (HG_13.out.below hb (by omega))
  have Hzw_14 := Lib.hid (Hzw_13.out.below hb (by omega))
  clear HW_13 Hq_13 Hqw_13 Hqh_13 HG_13 Hzw_13
  clear hb
  go_wp2_with fail
  refine (toIntS_d hs A2 n2 c2 w14 0 w.heap.size HB14.out.size (HH.out.below HB14.out (Nat.le_refl _)) HZH.out).mono ?_
  rintro e w15 ⟨Bzh, bzh, ho, hb, rfl⟩
  have Hzh_15 : Hid (OwnI w15 w14.heap.size w15.heap.size (intsD hs) (.slice Bzh n2 bzh)) := Lib.hid ho.ival
  have HB15 := Lib.hid (bel_tr HB14.out (Nat.le_refl _) hb)
  have hs15 : w14.heap.size ≤ w15.heap.size := hb.size
  have HW_15 := Lib.hid (HW_14.out.below hb (by omega))
  have Hq_15 := Lib.hid (Hq_14.out.below hb (by omega))
  have Hqw_15 := Lib.hid (Hqw_14.out.below hb (by omega))
  have Hqh_15 := Lib.hid (Hqh_14.out.below hb (by omega))
  have HG_15 := Lib.hid (HG_14.out.below hb (by omega))
  clear HW_14 Hq_14 Hqw_14 Hqh_14 HG_14
  clear ho hb
  go_wp2_with fail
  refine (eqIntS_d hs Bqh Bzh n2 n2 bqh bzh w15 w7.heap.size (w8.heap.size) w14.heap.size (w15.heap.size) Hqh_15.out.rd Hzh_15.out.rd).mono ?_
  rintro e w16 ⟨rfl, hb⟩
  have HB16 := Lib.hid (bel_tr HB15.out (Nat.le_refl _) hb)
  have hs16 : w15.heap.size ≤ w16.heap.size := hb.size
  have HW_16 := Lib.hid (HW_15.out.below hb (by omega))
  have Hq_16 := Lib.hid (Hq_15.out.below hb (by omega))
  have Hqw_16 := Lib.hid (Hqw_15.out.below hb (by omega))
  have Hqh_16 := Lib.hid (Hqh_15.out.below hb (by omega))
  have HG_16 := Lib.hid (HG_15.out.below hb (by omega))
  have Hzh_16 := Lib.hid (Hzh_15.out.below hb (by omega))
  clear HW_15 Hq_15 Hqw_15 Hqh_15 HG_15 Hzh_15
  clear hb
  obtain ⟨F, hF⟩ := Hq_16.out
  have HFa := Lib.hid hF.1
  have HFb := Lib.hid hF.2.1
  have HFc := Lib.hid hF.2.2
  clear hF
  go_wp2_with fail
  refine (markObjectS_d os Bq n0 bq 1 1 F w16 rfl (by omega) (by have := HCS.out; omega) HFa.out (fun g hg => by have := (HFb.out g hg).2; omega) HFc.out).mono ?_
  rintro e w17 ⟨hom, hc, rfl⟩
  clear Hq_16
  have HB17 := Lib.hid (hc.below HB16.out (Nat.le_refl _) (fun g hg => by have := HFb.out g hg; omega))
  have hs17 : w16.heap.size ≤ w17.heap.size := hc.2.2.2.1
  have HW_17 := Lib.hid (HW_16.out.chg hc (by omega) (fun g hg => by have := HFb.out g hg; omega))
  have Hqw_17 := Lib.hid (Hqw_16.out.chg hc (by omega) (fun g hg => by have := HFb.out g hg; omega))
  have Hqh_17 := Lib.hid (Hqh_16.out.chg hc (by omega) (fun g hg => by have := HFb.out g hg; omega))
  have HG_17 := Lib.hid (HG_16.out.chg hc (by omega) (fun g hg => by have := HFb.out g hg; omega))
  clear HW_16 Hqw_16 Hqh_16 HG_16
  clear hom hc HFa HFb HFc F
  obtain ⟨m1, hm3⟩ : ∃ z, z = 1 + D.cnt (dObjects os) := ⟨_, rfl⟩
  have hm4 : 1 ≤ m1 ∧ m1 ≤ 4000001 := by have := HCS.out; omega
  rw [← hm3]
  clear hm3
  obtain ⟨F, hF⟩ := Hqw_17.out
  have HFa := Lib.hid hF.1
  have HFb := Lib.hid hF.2.1
  have HFc := Lib.hid hF.2.2
  clear hF
  go_wp2_with fail
  refine (markIntS_d ws Bqw n1 bqw m1 m1 F w17 rfl (by omega) (by have := HCW.out; omega) HFa.out (fun g hg => by have := (HFb.out g hg).2; omega) HFc.out).mono ?_
  rintro e w18 ⟨hom, hc, rfl⟩
  clear Hqw_17
  have HB18 := Lib.hid (hc.below HB17.out (Nat.le_refl _) (fun g hg => by have := HFb.out g hg; omega))
  have hs18 : w17.heap.size ≤ w18.heap.size := hc.2.2.2.1
  have HW_18 := Lib.hid (HW_17.out.chg hc (by omega) (fun g hg => by have := HFb.out g hg; omega))
  have Hqh_18 := Lib.hid (Hqh_17.out.chg hc (by omega) (fun g hg => by have := HFb.out g hg; omega))
  have HG_18 := Lib.hid (HG_17.out.chg hc (by omega) (fun g hg => by have := HFb.out g hg; omega))
  clear HW_17 Hqh_17 HG_17
  clear hom hc HFa HFb HFc F
  obtain ⟨m2, hm3⟩ : ∃ z, z = m1 + D.cnt (intsD ws) := ⟨_, rfl⟩
  have hm5 : 1 ≤ m2 ∧ m2 ≤ 8000001 := by have := HCW.out; omega
  rw [← hm3]
  clear hm3
  obtain ⟨F, hF⟩ := Hqh_18.out
  have HFa := Lib.hid hF.1
  have HFb := Lib.hid hF.2.1
  have HFc := Lib.hid hF.2.2
  clear hF
  go_wp2_with fail
  refine (markIntS_d hs Bqh n2 bqh m2 m2 F w18 rfl (by omega) (by have := HCH.out; omega) HFa.out (fun g hg => by have := (HFb.out g hg).2; omega) HFc.out).mono ?_
  rintro e w19 ⟨hom, hc, rfl⟩
  clear Hqh_18
  have HB19 := Lib.hid (hc.below HB18.out (Nat.le_refl _) (fun g hg => by have := HFb.out g hg; omega))
  have hs19 : w18.heap.size ≤ w19.heap.size := hc.2.2.2.1
  have HW_19 := Lib.hid (HW_18.out.chg hc (by omega) (fun g hg => by have := HFb.out g hg; omega))
  have HG_19 := Lib.hid (HG_18.out.chg hc (by omega) (fun g hg => by have := HFb.out g hg; omega))
  clear HW_18 HG_18
  clear hom hc HFa HFb HFc F
  obtain ⟨m3, hm3⟩ : ∃ z, z = m2 + D.cnt (intsD hs) := ⟨_, rfl⟩
  have hm6 : 1 ≤ m3 := by omega
  rw [← hm3]
  clear hm3
  have hm7 : ¬ ((m3 : Int) < 0) := by omega
  go_wp2_with fail
  refine (eqPackEntryS_d R AG AW R.length R.length cG cW w19 w8.heap.size (w9.heap.size) w4.heap.size (w5.heap.size) (by omega) (by omega) HG_19.out.rd HW_19.out.rd).mono ?_
  rintro e w20 ⟨rfl, hb⟩
  have HB20 := Lib.hid (bel_tr HB19.out (Nat.le_refl _) hb)
  have hs20 : w19.heap.size ≤ w20.heap.size := hb.size
  have HW_20 := Lib.hid (HW_19.out.below hb (by omega))
  have HG_20 := Lib.hid (HG_19.out.below hb (by omega))
  clear HW_19 HG_19
  clear hb
  obtain ⟨F, hF⟩ := HG_20.out
  have HFa := Lib.hid hF.1
  have HFb := Lib.hid hF.2.1
  have HFc := Lib.hid hF.2.2
  clear hF
  go_wp2_with fail
  refine (markPackEntryS_d R AG R.length cG 1 1 F w20 rfl (by omega) (by have := HCR.out; omega) HFa.out (fun g hg => by have := (HFb.out g hg).2; omega) HFc.out).mono ?_
  rintro e w21 ⟨hom, hc, rfl⟩
  clear HG_20
  have HM_21 : Hid (D.rd w21 w8.heap.size (w9.heap.size) (D.mark (dPackEntrys R) 1) (.slice AG R.length cG)) := D.own.rd _ F _ HFb.out hom
  have HB21 := Lib.hid (hc.below HB20.out (Nat.le_refl _) (fun g hg => by have := HFb.out g hg; omega))
  have hs21 : w20.heap.size ≤ w21.heap.size := hc.2.2.2.1
  have HW_21 := Lib.hid (HW_20.out.chg hc (by omega) (fun g hg => by have := HFb.out g hg; omega))
  clear HW_20
  clear hom hc HFa HFb HFc F
  obtain ⟨q, hqq⟩ : ∃ q, 1 + D.cnt (dPackEntrys R) = q := ⟨_, rfl⟩
  have HQ := Lib.hid hqq
  rw [hqq]
  clear hqq
  have hne : ((q : Int) != (q : Int)) = false := by simp
  have hnn : ¬ ((q : Int) < 0) := by omega
  go_wp2_with fail
  refine (heldPackEntryS_d R AG R.length cG 1 1 w21 w8.heap.size (w9.heap.size) (by omega) rfl (by omega) (by have := HCR.out; omega) HM_21.out).mono ?_
  rintro e w22 ⟨hb, rfl⟩
  rw [HQ.out]
  have HB22 := Lib.hid (bel_tr HB21.out (Nat.le_refl _) hb)
  have hs22 : w21.heap.size ≤ w22.heap.size := hb.size
  have HW_22 := Lib.hid (HW_21.out.below hb (by omega))
  have HM_22 := Lib.hid (HM_21.out.below hb (by omega))
  clear HW_21 HM_21
  clear hb
  go_wp2_with fail
  refine (toObjectS_d os A0 n0 c0 w22 0 w.heap.size HB22.out.size (HS.out.below HB22.out (Nat.le_refl _)) HSZ.out).mono ?_
  rintro e w23 ⟨Br, br, ho, hb, rfl⟩
  have Hr_23 : Hid (OwnI w23 w22.heap.size w23.heap.size (dObjects os) (.slice Br n0 br)) := Lib.hid ho.ival
  have HB23 := Lib.hid (bel_tr HB22.out (Nat.le_refl _) hb)
  have hs23 : w22.heap.size ≤ w23.heap.size := hb.size
  have HW_23 := Lib.hid (HW_22.out.below hb (by omega))
  have HM_23 := Lib.hid (HM_22.out.below hb (by omega))
  clear HW_22 HM_22
  clear ho hb
  go_wp2_with fail
  refine (toIntS_d ws A1 n1 c1 w23 0 w.heap.size HB23.out.size (HW.out.below HB23.out (Nat.le_refl _)) HZW.out).mono ?_
  rintro e w24 ⟨Brw, brw, ho, hb, rfl⟩
  have Hrw_24 : Hid (OwnI w24 w23.heap.size w24.heap.size (intsD ws) (.slice Brw n1 brw)) := Lib.hid ho.ival
  have HB24 := Lib.hid (bel_tr HB23.out (Nat.le_refl _) hb)
  have hs24 : w23.heap.size ≤ w24.heap.size := hb.size
  have HW_24 := Lib.hid (HW_23.out.below hb (by omega))
  have HM_24 := Lib.hid (HM_23.out.below hb (by omega))
  have Hr_24 := Lib.hid (Hr_23.out.below hb (by omega))
  clear HW_23 HM_23 Hr_23
  clear ho hb
  go_wp2_with fail
  refine (toIntS_d hs A2 n2 c2 w24 0 w.heap.size HB24.out.size (HH.out.below HB24.out (Nat.le_refl _)) HZH.out).mono ?_
  rintro e w25 ⟨Brh, brh, ho, hb, rfl⟩
  have Hrh_25 : Hid (OwnI w25 w24.heap.size w25.heap.size (intsD hs) (.slice Brh n2 brh)) := Lib.hid ho.ival
  have HB25 := Lib.hid (bel_tr HB24.out (Nat.le_refl _) hb)
  have hs25 : w24.heap.size ≤ w25.heap.size := hb.size
  have HW_25 := Lib.hid (HW_24.out.below hb (by omega))
  have HM_25 := Lib.hid (HM_24.out.below hb (by omega))
  have Hr_25 := Lib.hid (Hr_24.out.below hb (by omega))
  have Hrw_25 := Lib.hid (Hrw_24.out.below hb (by omega))
  clear HW_24 HM_24 Hr_24 Hrw_24
  clear ho hb
  go_wp2_with fail
  refine (implFPack_any os ws hs Br n0 br Brw n1 brw Brh n2 brh mx w25 w22.heap.size (w25.heap.size) (by omega) (by omega) (by omega) ((HB25.out.cell hgw).trans HMX.out) (Hr_25.out.rd.more (by omega) (by omega)) (Hrw_25.out.rd.more (by omega) (by omega)).ints (Hrh_25.out.rd.more (by omega) (by omega)).ints).mono ?_
  rintro e w26 ⟨AK, cK, ho, hb, rfl⟩
  have hR := HR.out
  have hbb := HBB.out
  rw [← hR] at ho
  rw [← hbb, ← hR]
  have HK_26 : Hid (OwnI w26 w25.heap.size w26.heap.size (dPackEntrys R) (.slice AK R.length cK)) := Lib.hid ho.ival
  have HB26 := Lib.hid (bel_tr HB25.out (Nat.le_refl _) hb)
  have hs26 : w25.heap.size ≤ w26.heap.size := hb.size
  have HW_26 := Lib.hid (HW_25.out.below hb (by omega))
  have HM_26 := Lib.hid (HM_25.out.below hb (by omega))
  have Hr_26 := Lib.hid (Hr_25.out.below hb (by omega))
  have Hrw_26 := Lib.hid (Hrw_25.out.below hb (by omega))
  have Hrh_26 := Lib.hid (Hrh_25.out.below hb (by omega))
  clear HW_25 HM_25 Hr_25 Hrw_25 Hrh_25
  clear ho hb hR hbb
  go_wp2_with fail
  refine (eqPackEntryS_d R AK AW R.length R.length cK cW w26 w25.heap.size (w26.heap.size) w4.heap.size (w5.heap.size) (by omega) (by omega) HK_26.out.rd HW_26.out.rd).mono ?_
  rintro e w27 ⟨rfl, hb⟩
  have HB27 := Lib.hid (bel_tr HB26.out (Nat.le_refl _) hb)
  have hs27 : w26.heap.size ≤ w27.heap.size := hb.size
  have HW_27 := Lib.hid (HW_26.out.below hb (by omega))
  have HM_27 := Lib.hid (HM_26.out.below hb (by omega))
  have HK_27 := Lib.hid (HK_26.out.below hb (by omega))
  clear HW_26 HM_26 HK_26
  clear hb
  go_wp2_with fail
  refine (heldPackEntryS_d R AG R.length cG 1 1 w27 w8.heap.size (w9.heap.size) (by omega) rfl (by omega) (by have := HCR.out; omega) HM_27.out).mono ?_
  rintro e w28 ⟨hb, rfl⟩
  rw [HQ.out]
  have HB28 := Lib.hid (bel_tr HB27.out (Nat.le_refl _) hb)
  have hs28 : w27.heap.size ≤ w28.heap.size := hb.size
  have HW_28 := Lib.hid (HW_27.out.below hb (by omega))
  have HM_28 := Lib.hid (HM_27.out.below hb (by omega))
  have HK_28 := Lib.hid (HK_27.out.below hb (by omega))
  clear HW_27 HM_27 HK_27
  clear hb
  go_wp2_with fail
  go_ret
  exact ⟨rfl, HB28.out⟩

set_option linter.unusedVariables false
set_option maxRecDepth 100000 in
theorem lifted (os : Os) (started : os.Started) (H : Type) (enc : TypeId × Value → H) :
    ReturnsInHanded {} Tryz.checked os 3 .any (Rows.fnExactFetchPackSpec.pre6 enc Tryz.prog Tryz.f3 Rows.fnExactFetchPackRow.domain false) (Rows.fnExactFetchPackSpec.post enc Tryz.prog Tryz.f3 false true false false) := by
  refine returnsInHanded_of_change_shaped (C := Tryz.checked) Tryz.own started (by kernel_rfl) Tryz.func3
    (ChangeSpec.witness6 (enc := enc) (C := Tryz.checked) false ⟨#[], #[.slice none 0 0, .slice none 0 0, .slice none 0 0], []⟩ 8 (by kernel_rfl) (by kernel_rfl) (by kernel_rfl) (by kernel_rfl)) ?_
  intro W base args ds gs before hval0 hW hcnd _ hsh _
  obtain ⟨mx, hmx⟩ := Tryz.maxlen W hsh
  have hval : ∀ (j : Nat) t v, Tryz.f3.params[j]? = some t → args[j]? = some v → Value.okWide Tryz.prog W .any base t v := hval0
  have hW' := hW
  obtain ⟨p, q, hA0, hV, rfl, hfz, hnd⟩ := hW
  have hA : DataW.TrodAll enc Tryz.prog W 0 (fun _ => true) true Tryz.f3.params.toList args.toList ds p := hA0
  rw [Tryz.params3] at hA hval
  obtain ⟨v0, vs0, d0, ds0, p0, q0, hargs, rfl, rfl, h0, r0⟩ := trodAll_cons hA
  obtain ⟨v1, vs1, d1, ds1, p1, q1, rfl, rfl, rfl, h1, r1⟩ := trodAll_cons r0
  obtain ⟨v2, vs2, d2, ds2, p2, q2, rfl, rfl, rfl, h2, r2⟩ := trodAll_cons r1
  obtain ⟨rfl, rfl, rfl⟩ := trodAll_nil r2
  obtain rfl : args = #[v0, v1, v2] := by cases args; simp_all
  obtain ⟨rfl, rfl⟩ := trodVars_none hV
  have k0 := h0
  have lt0 : ∀ x ∈ p0, x.block < W.heap.size := by obtain ⟨m, hm⟩ := k0; exact DataW.trod_lt m _ _ _ hm
  obtain ⟨a0, len0, cap0, z0, rfl, w0⟩ := open_Object (hval 0 22 v0 rfl rfl) h0
  have k1 := h1
  have lt1 : ∀ x ∈ p1, x.block < W.heap.size := by obtain ⟨m, hm⟩ := k1; exact DataW.trod_lt m _ _ _ hm
  obtain ⟨a1, len1, cap1, z1, rfl, w1⟩ := open_IntsD (hval 1 23 v1 rfl rfl) h1
  have k2 := h2
  have lt2 : ∀ x ∈ p2, x.block < W.heap.size := by obtain ⟨m, hm⟩ := k2; exact DataW.trod_lt m _ _ _ hm
  obtain ⟨a2, len2, cap2, z2, rfl, w2⟩ := open_IntsD (hval 2 23 v2 rfl rfl) h2
  clear hA0 hval0
  refine (walk a0 len0 cap0 z0 a1 len1 cap1 z1 a2 len2 cap2 z2 W w0 w1 w2 mx hmx).mono fun e W' ⟨he, bel⟩ => ?_
  subst he
  exact ⟨_, rfl, _, _, _, [], _, [], hW', trodAll_mk1 (shut_bool Tryz.underlying4 _), (trodAll_cons_mk (Below.trod Tryz.laidOut (by kernel_rfl) (of_decide_eq_true (by kernel_rfl)) k0 bel lt0) (trodAll_cons_mk (Below.trod Tryz.laidOut (by kernel_rfl) (of_decide_eq_true (by kernel_rfl)) k1 bel lt1) (trodAll_cons_mk (Below.trod Tryz.laidOut (by kernel_rfl) (of_decide_eq_true (by kernel_rfl)) k2 bel lt2) trodAll_mk0))), rfl, bel.frame _, fun h => by cases h⟩

theorem proved : Rows.FnExactFetchPackSaid :=
  OpenClaim.holds_of_wide 3 Tryz.f3 rfl rfl rfl rfl rfl rfl rfl ⟨rfl, rfl, rfl, rfl, rfl⟩ rfl rfl rfl rfl rfl (by kernel_rfl) Tryz.func3 (by kernel_rfl)
    (of_decide_eq_true (by kernel_rfl)) (by unfold Func.isWrapper; first | (rw [if_pos (by decide +kernel)]; kernel_rfl) | (rw [if_neg (by decide +kernel)]; exact ⟨rfl, rfl⟩))
    (fun os started H enc _ => lifted os started H enc)

#print axioms proved

end Go.Proofs.YtnaeglfochnikaaGreat.fnExactFetchPack
