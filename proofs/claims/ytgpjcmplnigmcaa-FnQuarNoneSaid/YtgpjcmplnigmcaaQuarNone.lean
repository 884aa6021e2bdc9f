/-
  For every code: QuarantinePromote of a drawn quarantine answers as the reference; without an area nothing is promoted, and discarding changes nothing. No condition.
-/
import Derived.Test.YtgpjcmplnigmcaaM13
namespace Go.Proofs.Ytgpjcmplnigmcaa.fnQuarNone
set_option linter.unusedVariables false
set_option linter.unusedSimpArgs false
open Go.ChangeShapes Go.WideShapes Go.ChangeAt Go.RowKit

set_option maxRecDepth 100000 in
set_option maxHeartbeats 6400000 in
theorem walk (a0 : Option Addr) (len0 cap0 : Nat) (z0 : List Int) (w : World) (w0 : IsRow .u8 w a0 len0 cap0 z0) :
    Calls Try.prog 8 #[.slice a0 len0 cap0] w fun e w' => e = .returned (.bool true) ∧ Below w.heap.size w w' := by
  have hn := w0.bd
  have HI := Lib.hid w0
  clear w0
  by_cases hbig : 1048576 < len0
  · go_enter Try.func8, Try.ntmps8
    go_wp2
    go_ret
    exact ⟨rfl, Below.refl _ _⟩
  · have hs_len0 : len0 ≤ 1048576 := by omega
    clear hbig
    go_enter Try.func8, Try.ntmps8
    go_wp2_with fail
    refine (drawQPro_any _ _ _ z0 _ HI.out).mono ?_
    rintro e w1 ⟨Q, t, A, n, c, B, m, d, hm, ha, hQ, hb1, rfl⟩
    obtain rfl : n = Q.main.length := hm.len.1
    obtain rfl : m = Q.areas.length := ha.len.1
    have HQ := Lib.hid hQ
    have hq17 : Q.main.length ≤ 17 := hQ.2.1
    have hqa : Q.areas.length ≤ 5 := hQ.2.2.2
    have HB1 := Lib.hid hb1
    obtain ⟨y, hy⟩ : ∃ z, z = w1.heap.size := ⟨_, rfl⟩
    obtain ⟨w2, hw2⟩ : ∃ z, z = w1.alloc (.cells #[.slice A Q.main.length c, .slice B Q.areas.length d] 31) := ⟨_, rfl⟩
    have hb2 : Below w1.heap.size w1 w2 := by rw [hw2]; exact (Below.refl _ _).alloc (Nat.le_refl _) _
    have HVy_2 : Hid (QV w w2 y Q A c B d) := by rw [hw2, hy]; exact Lib.hid (QV.mk_ hm ha)
    have HB2 := Lib.hid (bel_tr HB1.out (Nat.le_refl _) hb2)
    clear hm ha  hQ hb1 hb2
    go_upto_region 4 with (fail)
    rw [← hw2, ← hy]
    clear hw2 hy
    obtain ⟨yc0, yc1, yl⟩ := HVy_2.out.cells
    go_wp2_with fail
    refine (implPromote_any (Q).main (Q).areas t A (Q).main.length c B (Q).areas.length d w2 w.heap.size w2.heap.size (Nat.le_refl _) HVy_2.out.2.1 HVy_2.out.2.2).mono ?_
    rintro e w3 ⟨Au, nu, cu, Bu, mu, du, hqu, hb3, rfl⟩
    obtain ⟨rfl, rfl, hr1, hr2⟩ := hqu.rd2
    obtain ⟨R, hR⟩ : ∃ Z, Z = quaPro ⟨Q.main, Q.areas⟩ t := ⟨_, rfl⟩
    have HR := Lib.hid hR
    rw [← hR] at hr1 hr2
    rw [← hR]
    have HR1 := Lib.hid (hr1.more (lo' := w.heap.size) HB2.out.size (Nat.le_refl _))
    have HR2 := Lib.hid (hr2.more (lo' := w.heap.size) HB2.out.size (Nat.le_refl _))
    clear hqu hr1 hr2 hR
    clear yc0 yc1 yl
    have HB3 := Lib.hid (bel_tr HB2.out (Nat.le_refl _) hb3)
    have HVy_3 := Lib.hid (HVy_2.out.fresh hb3)
    clear hb3
    obtain ⟨u, hu⟩ : ∃ z, z = w3.heap.size := ⟨_, rfl⟩
    obtain ⟨w4, hw4⟩ : ∃ z, z = w3.alloc (.cells #[.slice Au R.main.length cu, .slice Bu R.areas.length du] 31) := ⟨_, rfl⟩
    have hb4 : Below w3.heap.size w3 w4 := by rw [hw4]; exact (Below.refl _ _).alloc (Nat.le_refl _) _
    have HVu_4 : Hid (QV w w4 u R Au cu Bu du) := by rw [hw4, hu]; exact Lib.hid (QV.mk_ HR1.out HR2.out)
    have HB4 := Lib.hid (bel_tr HB3.out (Nat.le_refl _) hb4)
    have HVy_4 := Lib.hid (HVy_3.out.fresh hb4)
    clear hb4
    go_upto_region 5 with (fail)
    rw [← hw4, ← hu]
    clear hw4 hu HR1 HR2
    obtain ⟨yc0, yc1, yl⟩ := HVy_4.out.cells
    obtain ⟨uc0, uc1, ul⟩ := HVu_4.out.cells
    go_wp2_with fail
    refine (specPromote_any (Q).main (Q).areas t A (Q).main.length c B (Q).areas.length d w4 w.heap.size w4.heap.size (Nat.le_refl _) HVy_4.out.2.1 HVy_4.out.2.2).mono ?_
    rintro e w5 ⟨Av, nv, cv, Bv, mv, dv, hqv, hb5, rfl⟩
    obtain ⟨rfl, rfl, hr1, hr2⟩ := hqv.rd2
    have hR := HR.out
    rw [← hR] at hr1 hr2
    rw [← hR]
    have HR1 := Lib.hid (hr1.more (lo' := w.heap.size) HB4.out.size (Nat.le_refl _))
    have HR2 := Lib.hid (hr2.more (lo' := w.heap.size) HB4.out.size (Nat.le_refl _))
    clear hqv hr1 hr2 hR
    clear yc0 yc1 yl uc0 uc1 ul
    have HB5 := Lib.hid (bel_tr HB4.out (Nat.le_refl _) hb5)
    have HVy_5 := Lib.hid (HVy_4.out.fresh hb5)
    have HVu_5 := Lib.hid (HVu_4.out.fresh hb5)
    clear hb5
    obtain ⟨v, hv⟩ : ∃ z, z = w5.heap.size := ⟨_, rfl⟩
    obtain ⟨w6, hw6⟩ : ∃ z, z = w5.alloc (.cells #[.slice Av R.main.length cv, .slice Bv R.areas.length dv] 31) := ⟨_, rfl⟩
    have hb6 : Below w5.heap.size w5 w6 := by rw [hw6]; exact (Below.refl _ _).alloc (Nat.le_refl _) _
    have HVv_6 : Hid (QV w w6 v R Av cv Bv dv) := by rw [hw6, hv]; exact Lib.hid (QV.mk_ HR1.out HR2.out)
    have HB6 := Lib.hid (bel_tr HB5.out (Nat.le_refl _) hb6)
    have HVy_6 := Lib.hid (HVy_5.out.fresh hb6)
    have HVu_6 := Lib.hid (HVu_5.out.fresh hb6)
    clear hb6
    go_upto_region 6 with (fail)
    rw [← hw6, ← hv]
    clear hw6 hv HR1 HR2
    obtain ⟨yc0, yc1, yl⟩ := HVy_6.out.cells
    obtain ⟨uc0, uc1, ul⟩ := HVu_6.out.cells
    obtain ⟨vc0, vc1, vl⟩ := HVv_6.out.cells
    obtain ⟨b, hb⟩ : ∃ b, b = quaProB ⟨Q.main, Q.areas⟩ t := ⟨_, rfl⟩
    have HBB := Lib.hid hb
    rw [← hb]
    clear hb
    rcases b with _ | _
    · go_wp2_with fail
      refine (sameQua_any (R).main (R).areas Au Av (R).main.length cu cv Bu Bv (R).areas.length du dv w6 w.heap.size w6.heap.size w.heap.size w6.heap.size (Nat.le_refl _) (Nat.le_refl _) HVu_6.out.2.1 HVv_6.out.2.1 HVu_6.out.2.2 HVv_6.out.2.2).mono ?_
      rintro e w7 ⟨rfl, hb7⟩
      clear yc0 yc1 yl uc0 uc1 ul vc0 vc1 vl
      have HB7 := Lib.hid (bel_tr HB6.out (Nat.le_refl _) hb7)
      have HVy_7 := Lib.hid (HVy_6.out.fresh hb7)
      have HVu_7 := Lib.hid (HVu_6.out.fresh hb7)
      have HVv_7 := Lib.hid (HVv_6.out.fresh hb7)
      clear hb7
      obtain ⟨yc0, yc1, yl⟩ := HVy_7.out.cells
      obtain ⟨uc0, uc1, ul⟩ := HVu_7.out.cells
      obtain ⟨vc0, vc1, vl⟩ := HVv_7.out.cells
      go_wp2_with fail
      refine (specQuaValid_any Q.main Q.areas A Q.main.length c B Q.areas.length d w7 w.heap.size w7.heap.size (Nat.le_refl _) HVy_7.out.2.1 HVy_7.out.2.2).mono ?_
      rintro e w8 ⟨rfl, hb8⟩
      clear yc0 yc1 yl uc0 uc1 ul vc0 vc1 vl
      have HB8 := Lib.hid (bel_tr HB7.out (Nat.le_refl _) hb8)
      have HVy_8 := Lib.hid (HVy_7.out.fresh hb8)
      have HVu_8 := Lib.hid (HVu_7.out.fresh hb8)
      have HVv_8 := Lib.hid (HVv_7.out.fresh hb8)
      clear hb8
      obtain ⟨yc0, yc1, yl⟩ := HVy_8.out.cells
      obtain ⟨uc0, uc1, ul⟩ := HVu_8.out.cells
      obtain ⟨vc0, vc1, vl⟩ := HVv_8.out.cells
      rcases hv : quaB ⟨Q.main, Q.areas⟩ with _ | _
      · clear hv
        go_wp2_with fail
        refine (sameQua_any (R).main (R).areas Au Av (R).main.length cu cv Bu Bv (R).areas.length du dv w8 w.heap.size w8.heap.size w.heap.size w8.heap.size (Nat.le_refl _) (Nat.le_refl _) HVu_8.out.2.1 HVv_8.out.2.1 HVu_8.out.2.2 HVv_8.out.2.2).mono ?_
        rintro e w9 ⟨rfl, hb9⟩
        clear yc0 yc1 yl uc0 uc1 ul vc0 vc1 vl
        have HB9 := Lib.hid (bel_tr HB8.out (Nat.le_refl _) hb9)
        have HVy_9 := Lib.hid (HVy_8.out.fresh hb9)
        have HVu_9 := Lib.hid (HVu_8.out.fresh hb9)
        have HVv_9 := Lib.hid (HVv_8.out.fresh hb9)
        clear hb9
        obtain ⟨yc0, yc1, yl⟩ := HVy_9.out.cells
        obtain ⟨uc0, uc1, ul⟩ := HVu_9.out.cells
        obtain ⟨vc0, vc1, vl⟩ := HVv_9.out.cells
        go_wp2_with fail
        go_ret
        exact ⟨rfl, HB9.out⟩
      have HV := Lib.hid (show quaB Q = true from hv)
      clear hv
      by_cases ht0 : t < 0
      · go_wp2_with fail
        refine (sameQua_any (R).main (R).areas Au Av (R).main.length cu cv Bu Bv (R).areas.length du dv w8 w.heap.size w8.heap.size w.heap.size w8.heap.size (Nat.le_refl _) (Nat.le_refl _) HVu_8.out.2.1 HVv_8.out.2.1 HVu_8.out.2.2 HVv_8.out.2.2).mono ?_
        rintro e w9 ⟨rfl, hb9⟩
        clear yc0 yc1 yl uc0 uc1 ul vc0 vc1 vl
        have HB9 := Lib.hid (bel_tr HB8.out (Nat.le_refl _) hb9)
        have HVy_9 := Lib.hid (HVy_8.out.fresh hb9)
        have HVu_9 := Lib.hid (HVu_8.out.fresh hb9)
        have HVv_9 := Lib.hid (HVv_8.out.fresh hb9)
        clear hb9
        obtain ⟨yc0, yc1, yl⟩ := HVy_9.out.cells
        obtain ⟨uc0, uc1, ul⟩ := HVu_9.out.cells
        obtain ⟨vc0, vc1, vl⟩ := HVv_9.out.cells
        go_wp2_with fail
        go_ret
        exact ⟨rfl, HB9.out⟩
      by_cases ht1 : 12 ≤ t
      · go_wp2_with fail
        refine (sameQua_any (R).main (R).areas Au Av (R).main.length cu cv Bu Bv (R).areas.length du dv w8 w.heap.size w8.heap.size w.heap.size w8.heap.size (Nat.le_refl _) (Nat.le_refl _) HVu_8.out.2.1 HVv_8.out.2.1 HVu_8.out.2.2 HVv_8.out.2.2).mono ?_
        rintro e w9 ⟨rfl, hb9⟩
        clear yc0 yc1 yl uc0 uc1 ul vc0 vc1 vl
        have HB9 := Lib.hid (bel_tr HB8.out (Nat.le_refl _) hb9)
        have HVy_9 := Lib.hid (HVy_8.out.fresh hb9)
        have HVu_9 := Lib.hid (HVu_8.out.fresh hb9)
        have HVv_9 := Lib.hid (HVv_8.out.fresh hb9)
        clear hb9
        obtain ⟨yc0, yc1, yl⟩ := HVy_9.out.cells
        obtain ⟨uc0, uc1, ul⟩ := HVu_9.out.cells
        obtain ⟨vc0, vc1, vl⟩ := HVv_9.out.cells
        go_wp2_with fail
        go_ret
        exact ⟨rfl, HB9.out⟩
      have HT : Hid (txnB t = true) := Lib.hid (by unfold txnB; rw [inR_iff]; omega)
      have HRQ : Hid (R = Q) := Lib.hid (by rw [HR.out]; exact quaPro_false HV.out HT.out HBB.out.symm)
      have HA := Lib.hid ((quaB_iff _).1 HV.out).1.2
      go_wp2_with fail
      refine (areaOf_any (Q).areas t A (Q).main.length c B (Q).areas.length d w8 w.heap.size w8.heap.size (Nat.le_refl _) HA.out HVy_8.out.2.2).mono ?_
      rintro e w9 ⟨Aa, na, ca, hra, hb9, rfl⟩
      have HNa := Lib.hid hra.len.1
      have HLa_9 : Hid (D.rd w9 w.heap.size w9.heap.size (dObjects (areaL (Q).areas t)) (.slice Aa na ca)) := Lib.hid (hra.more (Nat.le_refl _) hb9.size)
      clear hra
      clear yc0 yc1 yl uc0 uc1 ul vc0 vc1 vl
      have HB9 := Lib.hid (bel_tr HB8.out (Nat.le_refl _) hb9)
      have HVy_9 := Lib.hid (HVy_8.out.fresh hb9)
      have HVu_9 := Lib.hid (HVu_8.out.fresh hb9)
      have HVv_9 := Lib.hid (HVv_8.out.fresh hb9)
      clear hb9
      obtain ⟨yc0, yc1, yl⟩ := HVy_9.out.cells
      obtain ⟨uc0, uc1, ul⟩ := HVu_9.out.cells
      obtain ⟨vc0, vc1, vl⟩ := HVv_9.out.cells
      by_cases hl0 : 0 < na
      · have hl0i : (0 : Int) < (na : Int) := by omega
        have HVuq := HVu_9.out
        rw [HRQ.out] at HVuq
        have HVu_9 := Lib.hid HVuq
        clear yc0 yc1 yl uc0 uc1 ul vc0 vc1 vl
        clear HVuq
        have HRL : Hid (R.main.length = Q.main.length ∧ R.areas.length = Q.areas.length) := Lib.hid (by rw [HRQ.out]; exact ⟨rfl, rfl⟩)
        obtain ⟨yc0, yc1, yl⟩ := HVy_9.out.cells
        obtain ⟨uc0, uc1, ul⟩ := HVu_9.out.cells
        obtain ⟨vc0, vc1, vl⟩ := HVv_9.out.cells
        go_wp2_with fail
        refine (sameQua_any (Q).main (Q).areas Au A (Q).main.length cu c Bu B (Q).areas.length du d w9 w.heap.size w9.heap.size w.heap.size w9.heap.size (Nat.le_refl _) (Nat.le_refl _) HVu_9.out.2.1 HVy_9.out.2.1 HVu_9.out.2.2 HVy_9.out.2.2).mono ?_
        rintro e w10 ⟨rfl, hb10⟩
        clear yc0 yc1 yl uc0 uc1 ul vc0 vc1 vl
        have HB10 := Lib.hid (bel_tr HB9.out (Nat.le_refl _) hb10)
        have HVy_10 := Lib.hid (HVy_9.out.fresh hb10)
        have HVu_10 := Lib.hid (HVu_9.out.fresh hb10)
        have HVv_10 := Lib.hid (HVv_9.out.fresh hb10)
        have HLa_10 := Lib.hid (HLa_9.out.fresh hb10)
        clear hb10
        obtain ⟨yc0, yc1, yl⟩ := HVy_10.out.cells
        obtain ⟨uc0, uc1, ul⟩ := HVu_10.out.cells
        obtain ⟨vc0, vc1, vl⟩ := HVv_10.out.cells
        go_wp2_with fail
        go_ret
        exact ⟨rfl, HB10.out⟩
      · have hl0i : ¬ ((0 : Int) < (na : Int)) := by omega
        have HNO := Lib.hid (areaL_nil HV.out (t := t) (by rw [← HNa.out]; omega))
        have HDN := Lib.hid (quaDis_none HV.out HT.out HNO.out)
        clear hl0
        have HVuq := HVu_9.out
        rw [HRQ.out] at HVuq
        have HVu_9 := Lib.hid HVuq
        clear yc0 yc1 yl uc0 uc1 ul vc0 vc1 vl
        clear HVuq
        have HRL : Hid (R.main.length = Q.main.length ∧ R.areas.length = Q.areas.length) := Lib.hid (by rw [HRQ.out]; exact ⟨rfl, rfl⟩)
        obtain ⟨yc0, yc1, yl⟩ := HVy_9.out.cells
        obtain ⟨uc0, uc1, ul⟩ := HVu_9.out.cells
        obtain ⟨vc0, vc1, vl⟩ := HVv_9.out.cells
        go_wp2_with fail
        refine (implDiscard_any (Q).main (Q).areas t A (Q).main.length c B (Q).areas.length d w9 w.heap.size w9.heap.size (Nat.le_refl _) HVy_9.out.2.1 HVy_9.out.2.2).mono ?_
        rintro e w10 ⟨Ax, nx, cx, Bx, mx, dx, hqx, hb10, rfl⟩
        have hE : quaDis ⟨Q.main, Q.areas⟩ t = Q := HDN.out.1
        have hF : quaDisB ⟨Q.main, Q.areas⟩ t = false := HDN.out.2
        rw [hE] at hqx
        obtain ⟨rfl, rfl, hr1, hr2⟩ := hqx.rd2
        rw [hF]
        clear hE hF
        have HR1 := Lib.hid (hr1.more (lo' := w.heap.size) HB9.out.size (Nat.le_refl _))
        have HR2 := Lib.hid (hr2.more (lo' := w.heap.size) HB9.out.size (Nat.le_refl _))
        clear hqx hr1 hr2
        clear yc0 yc1 yl uc0 uc1 ul vc0 vc1 vl
        have HB10 := Lib.hid (bel_tr HB9.out (Nat.le_refl _) hb10)
        have HVy_10 := Lib.hid (HVy_9.out.fresh hb10)
        have HVu_10 := Lib.hid (HVu_9.out.fresh hb10)
        have HVv_10 := Lib.hid (HVv_9.out.fresh hb10)
        have HLa_10 := Lib.hid (HLa_9.out.fresh hb10)
        clear hb10
        obtain ⟨x, hx⟩ : ∃ z, z = w10.heap.size := ⟨_, rfl⟩
        obtain ⟨w11, hw11⟩ : ∃ z, z = w10.alloc (.cells #[.slice Ax (Q).main.length cx, .slice Bx (Q).areas.length dx] 31) := ⟨_, rfl⟩
        have hb11 : Below w10.heap.size w10 w11 := by rw [hw11]; exact (Below.refl _ _).alloc (Nat.le_refl _) _
        have HVx_11 : Hid (QV w w11 x Q Ax cx Bx dx) := by rw [hw11, hx]; exact Lib.hid (QV.mk_ HR1.out HR2.out)
        have HB11 := Lib.hid (bel_tr HB10.out (Nat.le_refl _) hb11)
        have HVy_11 := Lib.hid (HVy_10.out.fresh hb11)
        have HVu_11 := Lib.hid (HVu_10.out.fresh hb11)
        have HVv_11 := Lib.hid (HVv_10.out.fresh hb11)
        have HLa_11 := Lib.hid (HLa_10.out.fresh hb11)
        clear hb11
        go_upto_region 11 with (fail)
        rw [← hw11, ← hx]
        clear hw11 hx HR1 HR2
        obtain ⟨yc0, yc1, yl⟩ := HVy_11.out.cells
        obtain ⟨uc0, uc1, ul⟩ := HVu_11.out.cells
        obtain ⟨vc0, vc1, vl⟩ := HVv_11.out.cells
        obtain ⟨xc0, xc1, xl⟩ := HVx_11.out.cells
        go_wp2_with fail
        refine (sameQua_any (Q).main (Q).areas Au A (Q).main.length cu c Bu B (Q).areas.length du d w11 w.heap.size w11.heap.size w.heap.size w11.heap.size (Nat.le_refl _) (Nat.le_refl _) HVu_11.out.2.1 HVy_11.out.2.1 HVu_11.out.2.2 HVy_11.out.2.2).mono ?_
        rintro e w12 ⟨rfl, hb12⟩
        clear yc0 yc1 yl uc0 uc1 ul vc0 vc1 vl xc0 xc1 xl
        have HB12 := Lib.hid (bel_tr HB11.out (Nat.le_refl _) hb12)
        have HVy_12 := Lib.hid (HVy_11.out.fresh hb12)
        have HVu_12 := Lib.hid (HVu_11.out.fresh hb12)
        have HVv_12 := Lib.hid (HVv_11.out.fresh hb12)
        have HVx_12 := Lib.hid (HVx_11.out.fresh hb12)
        have HLa_12 := Lib.hid (HLa_11.out.fresh hb12)
        clear hb12
        obtain ⟨yc0, yc1, yl⟩ := HVy_12.out.cells
        obtain ⟨uc0, uc1, ul⟩ := HVu_12.out.cells
        obtain ⟨vc0, vc1, vl⟩ := HVv_12.out.cells
        obtain ⟨xc0, xc1, xl⟩ := HVx_12.out.cells
        go_wp2_with fail
        refine (sameQua_any (Q).main (Q).areas Ax A (Q).main.length cx c Bx B (Q).areas.length dx d w12 w.heap.size w12.heap.size w.heap.size w12.heap.size (Nat.le_refl _) (Nat.le_refl _) HVx_12.out.2.1 HVy_12.out.2.1 HVx_12.out.2.2 HVy_12.out.2.2).mono ?_
        rintro e w13 ⟨rfl, hb13⟩
        clear yc0 yc1 yl uc0 uc1 ul vc0 vc1 vl xc0 xc1 xl
        have HB13 := Lib.hid (bel_tr HB12.out (Nat.le_refl _) hb13)
        have HVy_13 := Lib.hid (HVy_12.out.fresh hb13)
        have HVu_13 := Lib.hid (HVu_12.out.fresh hb13)
        have HVv_13 := Lib.hid (HVv_12.out.fresh hb13)
        have HVx_13 := Lib.hid (HVx_12.out.fresh hb13)
        have HLa_13 := Lib.hid (HLa_12.out.fresh hb13)
        clear hb13
        obtain ⟨yc0, yc1, yl⟩ := HVy_13.out.cells
        obtain ⟨uc0, uc1, ul⟩ := HVu_13.out.cells
        obtain ⟨vc0, vc1, vl⟩ := HVv_13.out.cells
        obtain ⟨xc0, xc1, xl⟩ := HVx_13.out.cells
        go_wp2_with fail
        go_ret
        exact ⟨rfl, HB13.out⟩
    · go_wp2_with fail
      refine (sameQua_any (R).main (R).areas Au Av (R).main.length cu cv Bu Bv (R).areas.length du dv w6 w.heap.size w6.heap.size w.heap.size w6.heap.size (Nat.le_refl _) (Nat.le_refl _) HVu_6.out.2.1 HVv_6.out.2.1 HVu_6.out.2.2 HVv_6.out.2.2).mono ?_
      rintro e w7 ⟨rfl, hb7⟩
      clear yc0 yc1 yl uc0 uc1 ul vc0 vc1 vl
      have HB7 := Lib.hid (bel_tr HB6.out (Nat.le_refl _) hb7)
      have HVy_7 := Lib.hid (HVy_6.out.fresh hb7)
      have HVu_7 := Lib.hid (HVu_6.out.fresh hb7)
      have HVv_7 := Lib.hid (HVv_6.out.fresh hb7)
      clear hb7
      obtain ⟨yc0, yc1, yl⟩ := HVy_7.out.cells
      obtain ⟨uc0, uc1, ul⟩ := HVu_7.out.cells
      obtain ⟨vc0, vc1, vl⟩ := HVv_7.out.cells
      go_wp2_with fail
      refine (sameQua_any (R).main (R).areas Au Av (R).main.length cu cv Bu Bv (R).areas.length du dv w7 w.heap.size w7.heap.size w.heap.size w7.heap.size (Nat.le_refl _) (Nat.le_refl _) HVu_7.out.2.1 HVv_7.out.2.1 HVu_7.out.2.2 HVv_7.out.2.2).mono ?_
      rintro e w8 ⟨rfl, hb8⟩
      clear yc0 yc1 yl uc0 uc1 ul vc0 vc1 vl
      have HB8 := Lib.hid (bel_tr HB7.out (Nat.le_refl _) hb8)
      have HVy_8 := Lib.hid (HVy_7.out.fresh hb8)
      have HVu_8 := Lib.hid (HVu_7.out.fresh hb8)
      have HVv_8 := Lib.hid (HVv_7.out.fresh hb8)
      clear hb8
      obtain ⟨yc0, yc1, yl⟩ := HVy_8.out.cells
      obtain ⟨uc0, uc1, ul⟩ := HVu_8.out.cells
      obtain ⟨vc0, vc1, vl⟩ := HVv_8.out.cells
      go_wp2_with fail
      go_ret
      exact ⟨rfl, HB8.out⟩

set_option linter.unusedVariables false
set_option maxRecDepth 100000 in
theorem lifted (os : Os) (started : os.Started) (H : Type) (enc : TypeId × Value → H) :
    ReturnsInHanded {} Try.checked os 8 .any (Rows.fnQuarNoneSpec.pre6 enc Try.prog Try.f8 Rows.fnQuarNoneRow.domain false) (Rows.fnQuarNoneSpec.post enc Try.prog Try.f8 false true false false) := by
  refine returnsInHanded_of_change (C := Try.checked) Try.own started (by kernel_rfl) Try.func8
    (ChangeSpec.witness6 (enc := enc) (C := Try.checked) false ⟨#[], #[.slice none 0 0], []⟩ 8 (by kernel_rfl) (by kernel_rfl) (by kernel_rfl) (by kernel_rfl)) ?_
  intro W base args ds gs before hval0 hW hcnd _
  have hval : ∀ (j : Nat) t v, Try.f8.params[j]? = some t → args[j]? = some v → Value.okWide Try.prog W .any base t v := hval0
  have hW' := hW
  obtain ⟨p, q, hA0, hV, rfl, hfz, hnd⟩ := hW
  have hA : DataW.TrodAll enc Try.prog W 0 (fun _ => true) true Try.f8.params.toList args.toList ds p := hA0
  rw [Try.params8] at hA hval
  obtain ⟨v0, vs0, d0, ds0, p0, q0, hargs, rfl, rfl, h0, r0⟩ := trodAll_cons hA
  obtain ⟨rfl, rfl, rfl⟩ := trodAll_nil r0
  obtain rfl : args = #[v0] := by cases args; simp_all
  obtain ⟨rfl, rfl⟩ := trodVars_none hV
  have k0 := h0
  have lt0 : ∀ x ∈ p0, x.block < W.heap.size := by obtain ⟨m, hm⟩ := k0; exact DataW.trod_lt m _ _ _ hm
  obtain ⟨a0, len0, cap0, rfl⟩ := okWide_slice Try.underlying41 (hval 0 41 v0 rfl rfl)
  obtain ⟨z0, w0⟩ := open_row (k := .u8) Try.underlying41 Try.underlying5 (by kernel_rfl) h0 (fun _ => rfl)
  clear hA0 hval0
  refine (walk a0 len0 cap0 z0 W w0).mono fun e W' ⟨he, bel⟩ => ?_
  subst he
  exact ⟨_, rfl, _, _, _, [], _, [], hW', trodAll_mk1 (shut_bool Try.underlying4 _), (trodAll_cons_mk (Below.trod Try.laidOut (by kernel_rfl) (of_decide_eq_true (by kernel_rfl)) k0 bel lt0) trodAll_mk0), rfl, bel.frame _, fun h => by cases h⟩

theorem proved : Rows.FnQuarNoneSaid :=
  OpenClaim.holds_of_wide 8 Try.f8 rfl rfl rfl rfl rfl rfl rfl ⟨rfl, rfl, rfl, rfl, rfl⟩ rfl rfl rfl rfl rfl (by kernel_rfl) Try.func8 (by kernel_rfl)
    (of_decide_eq_true (by kernel_rfl)) (by unfold Func.isWrapper; first | (rw [if_pos (by decide +kernel)]; kernel_rfl) | (rw [if_neg (by decide +kernel)]; exact ⟨rfl, rfl⟩))
    (fun os started H enc _ => lifted os started H enc)

#print axioms proved
end Go.Proofs.Ytgpjcmplnigmcaa.fnQuarNone
