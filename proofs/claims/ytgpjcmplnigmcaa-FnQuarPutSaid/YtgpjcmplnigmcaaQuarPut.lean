/-
  For every code: QuarantinePut for a drawn quarantine answers as the reference; the objects are in the area, and the main store is as it was. No condition.
-/
import Derived.Test.YtgpjcmplnigmcaaM13
namespace Go.Proofs.Ytgpjcmplnigmcaa.fnQuarPut
set_option linter.unusedVariables false
set_option linter.unusedSimpArgs false
open Go.ChangeShapes Go.WideShapes Go.ChangeAt Go.RowKit

set_option maxRecDepth 100000 in
set_option maxHeartbeats 6400000 in
theorem walk (a0 : Option Addr) (len0 cap0 : Nat) (z0 : List Int) (w : World) (w0 : IsRow .u8 w a0 len0 cap0 z0) :
    Calls Try.prog 7 #[.slice a0 len0 cap0] w fun e w' => e = .returned (.bool true) ∧ Below w.heap.size w w' := by
  have hn := w0.bd
  have HI := Lib.hid w0
  clear w0
  by_cases hbig : 1048576 < len0
  · go_enter Try.func7, Try.ntmps7
    go_wp2
    go_ret
    exact ⟨rfl, Below.refl _ _⟩
  · have hs_len0 : len0 ≤ 1048576 := by omega
    clear hbig
    go_enter Try.func7, Try.ntmps7
    go_wp2_with fail
    refine (drawQPut_any _ _ _ z0 _ HI.out).mono ?_
    rintro e w1 ⟨Q, t, l, A, n, c, B, m, d, L, nl, cl, hm, ha, hl, hQ, hb1, rfl⟩
    obtain rfl : nl = l.length := hl.len.1
    obtain rfl : n = Q.main.length := hm.len.1
    obtain rfl : m = Q.areas.length := ha.len.1
    have HQ := Lib.hid hQ
    have hq17 : Q.main.length ≤ 17 := hQ.2.1
    have hqa : Q.areas.length ≤ 5 := hQ.2.2.2
    have HB1 := Lib.hid hb1
    obtain ⟨y, hy⟩ : ∃ z, z = w1.heap.size := ⟨_, rfl⟩
    obtain ⟨w2, hw2⟩ : ∃ z, z = w1.alloc (.cells #[.slice A Q.main.length c, .slice B Q.areas.length d] 31) := ⟨_, rfl⟩
    have hb2 : Below w1.heap.size w1 w2 := by rw [hw2]; exact (Below.refl _ _).alloc (Nat.le_refl _) _
    have HVy_2 : Hid (QV w w2 y Q A c B d) := by rw [hw2, hy]; exact Lib.hid (QV.mk_ hm ha)
    have HB2 := Lib.hid (bel_tr HB1.out (Nat.le_refl _) hb2)
    have HLl_2 := Lib.hid (hl.fresh hb2)
    clear hm ha hl hQ hb1 hb2
    go_upto_region 4 with (fail)
    rw [← hw2, ← hy]
    clear hw2 hy
    obtain ⟨yc0, yc1, yl⟩ := HVy_2.out.cells
    go_wp2_with fail
    refine (implQPut_any Q.main Q.areas t l A Q.main.length c B Q.areas.length d L l.length cl w2 w.heap.size w2.heap.size w.heap.size w2.heap.size (Nat.le_refl _) (Nat.le_refl _) HVy_2.out.2.1 HVy_2.out.2.2 HLl_2.out).mono ?_
    rintro e w3 ⟨Au, nu, cu, Bu, mu, du, hqu, hb3, rfl⟩
    obtain ⟨rfl, rfl, hr1, hr2⟩ := hqu.rd2
    obtain ⟨R, hR⟩ : ∃ Z, Z = quaPut ⟨Q.main, Q.areas⟩ t l := ⟨_, rfl⟩
    have HR := Lib.hid hR
    rw [← hR] at hr1 hr2
    rw [← hR]
    have HR1 := Lib.hid (hr1.more (lo' := w.heap.size) HB2.out.size (Nat.le_refl _))
    have HR2 := Lib.hid (hr2.more (lo' := w.heap.size) HB2.out.size (Nat.le_refl _))
    clear hqu hr1 hr2 hR
    clear yc0 yc1 yl
    have HB3 := Lib.hid (bel_tr HB2.out (Nat.le_refl _) hb3)
    have HVy_3 := Lib.hid (HVy_2.out.fresh hb3)
    have HLl_3 := Lib.hid (HLl_2.out.fresh hb3)
    clear hb3
    obtain ⟨u, hu⟩ : ∃ z, z = w3.heap.size := ⟨_, rfl⟩
    obtain ⟨w4, hw4⟩ : ∃ z, z = w3.alloc (.cells #[.slice Au R.main.length cu, .slice Bu R.areas.length du] 31) := ⟨_, rfl⟩
    have hb4 : Below w3.heap.size w3 w4 := by rw [hw4]; exact (Below.refl _ _).alloc (Nat.le_refl _) _
    have HVu_4 : Hid (QV w w4 u R Au cu Bu du) := by rw [hw4, hu]; exact Lib.hid (QV.mk_ HR1.out HR2.out)
    have HB4 := Lib.hid (bel_tr HB3.out (Nat.le_refl _) hb4)
    have HVy_4 := Lib.hid (HVy_3.out.fresh hb4)
    have HLl_4 := Lib.hid (HLl_3.out.fresh hb4)
    clear hb4
    go_upto_region 5 with (fail)
    rw [← hw4, ← hu]
    clear hw4 hu HR1 HR2
    obtain ⟨yc0, yc1, yl⟩ := HVy_4.out.cells
    obtain ⟨uc0, uc1, ul⟩ := HVu_4.out.cells
    go_wp2_with fail
    refine (specQPut_any Q.main Q.areas t l A Q.main.length c B Q.areas.length d L l.length cl w4 w.heap.size w4.heap.size w.heap.size w4.heap.size (Nat.le_refl _) (Nat.le_refl _) HVy_4.out.2.1 HVy_4.out.2.2 HLl_4.out).mono ?_
    rintro e w5 ⟨Av, nv, cv, Bv, mv, dv, hqv, hb5, rfl⟩
    obtain ⟨rfl, rfl, hr1, hr2⟩ := hqv.rd2
    have hR := HR.out
    rw [← hR] at hr1 hr2
    rw [← hR]
    have HR1 := Lib.hid (hr1.more (lo' := w.heap.size) HB4.out.size (Nat.le_refl _))
    have HR2 := Lib.hid (hr2.more (lo' := w.heap.size) HB4.out.size (Nat.le_refl _))
    clear hqv hr1 hr2 hR
    clear yc0 yc1 yl uc0 uc1 ul
    have HB5 := Lib.hid (bel_tr HB4.out (Nat.le_refl _) hb5)
    have HVy_5 := Lib.hid (HVy_4.out.fresh hb5)
    have HVu_5 := Lib.hid (HVu_4.out.fresh hb5)
    have HLl_5 := Lib.hid (HLl_4.out.fresh hb5)
    clear hb5
    obtain ⟨v, hv⟩ : ∃ z, z = w5.heap.size := ⟨_, rfl⟩
    obtain ⟨w6, hw6⟩ : ∃ z, z = w5.alloc (.cells #[.slice Av R.main.length cv, .slice Bv R.areas.length dv] 31) := ⟨_, rfl⟩
    have hb6 : Below w5.heap.size w5 w6 := by rw [hw6]; exact (Below.refl _ _).alloc (Nat.le_refl _) _
    have HVv_6 : Hid (QV w w6 v R Av cv Bv dv) := by rw [hw6, hv]; exact Lib.hid (QV.mk_ HR1.out HR2.out)
    have HB6 := Lib.hid (bel_tr HB5.out (Nat.le_refl _) hb6)
    have HVy_6 := Lib.hid (HVy_5.out.fresh hb6)
    have HVu_6 := Lib.hid (HVu_5.out.fresh hb6)
    have HLl_6 := Lib.hid (HLl_5.out.fresh hb6)
    clear hb6
    go_upto_region 6 with (fail)
    rw [← hw6, ← hv]
    clear hw6 hv HR1 HR2
    obtain ⟨yc0, yc1, yl⟩ := HVy_6.out.cells
    obtain ⟨uc0, uc1, ul⟩ := HVu_6.out.cells
    obtain ⟨vc0, vc1, vl⟩ := HVv_6.out.cells
    obtain ⟨b, hb⟩ : ∃ b, b = quaPutB ⟨Q.main, Q.areas⟩ t l := ⟨_, rfl⟩
    have HBB := Lib.hid hb
    rw [← hb]
    clear hb
    rcases b with _ | _
    · go_wp2_with fail
      refine (sameQua_any (R).main (R).areas Au Av (R).main.length cu cv Bu Bv (R).areas.length du dv w6 w.heap.size w6.heap.size w.heap.size w6.heap.size (Nat.le_refl _) (Nat.le_refl _) HVu_6.out.2.1 HVv_6.out.2.1 HVu_6.out.2.2 HVv_6.out.2.2).mono ?_
      rintro e w7 ⟨rfl, hb7⟩
      clear yc0 yc1 yl uc0 uc1 ul vc0 vc1 vl
      have HB7 := Lib.hid (bel_tr HB6.out (Nat.le_refl _) hb7)
      have HVy_7 := Lib.hid (HVy_6.out.fresh hb7)
      have HVu_7 := Lib.hid (HVu_6.out.fresh hb7)
      have HVv_7 := Lib.hid (HVv_6.out.fresh hb7)
      have HLl_7 := Lib.hid (HLl_6.out.fresh hb7)
      clear hb7
      obtain ⟨yc0, yc1, yl⟩ := HVy_7.out.cells
      obtain ⟨uc0, uc1, ul⟩ := HVu_7.out.cells
      obtain ⟨vc0, vc1, vl⟩ := HVv_7.out.cells
      go_wp2_with fail
      refine (specQuaValid_any Q.main Q.areas A Q.main.length c B Q.areas.length d w7 w.heap.size w7.heap.size (Nat.le_refl _) HVy_7.out.2.1 HVy_7.out.2.2).mono ?_
      rintro e w8 ⟨rfl, hb8⟩
      clear yc0 yc1 yl uc0 uc1 ul vc0 vc1 vl
      have HB8 := Lib.hid (bel_tr HB7.out (Nat.le_refl _) hb8)
      have HVy_8 := Lib.hid (HVy_7.out.fresh hb8)
      have HVu_8 := Lib.hid (HVu_7.out.fresh hb8)
      have HVv_8 := Lib.hid (HVv_7.out.fresh hb8)
      have HLl_8 := Lib.hid (HLl_7.out.fresh hb8)
      clear hb8
      obtain ⟨yc0, yc1, yl⟩ := HVy_8.out.cells
      obtain ⟨uc0, uc1, ul⟩ := HVu_8.out.cells
      obtain ⟨vc0, vc1, vl⟩ := HVv_8.out.cells
      rcases hv : quaB ⟨Q.main, Q.areas⟩ with _ | _
      · clear hv
        go_wp2_with fail
        refine (sameQua_any (R).main (R).areas Au Av (R).main.length cu cv Bu Bv (R).areas.length du dv w8 w.heap.size w8.heap.size w.heap.size w8.heap.size (Nat.le_refl _) (Nat.le_refl _) HVu_8.out.2.1 HVv_8.out.2.1 HVu_8.out.2.2 HVv_8.out.2.2).mono ?_
        rintro e w9 ⟨rfl, hb9⟩
        clear yc0 yc1 yl uc0 uc1 ul vc0 vc1 vl
        have HB9 := Lib.hid (bel_tr HB8.out (Nat.le_refl _) hb9)
        have HVy_9 := Lib.hid (HVy_8.out.fresh hb9)
        have HVu_9 := Lib.hid (HVu_8.out.fresh hb9)
        have HVv_9 := Lib.hid (HVv_8.out.fresh hb9)
        have HLl_9 := Lib.hid (HLl_8.out.fresh hb9)
        clear hb9
        obtain ⟨yc0, yc1, yl⟩ := HVy_9.out.cells
        obtain ⟨uc0, uc1, ul⟩ := HVu_9.out.cells
        obtain ⟨vc0, vc1, vl⟩ := HVv_9.out.cells
        go_wp2_with fail
        go_ret
        exact ⟨rfl, HB9.out⟩
      have HV := Lib.hid (show quaB Q = true from hv)
      clear hv
      by_cases ht0 : t < 0
      · go_wp2_with fail
        refine (sameQua_any (R).main (R).areas Au Av (R).main.length cu cv Bu Bv (R).areas.length du dv w8 w.heap.size w8.heap.size w.heap.size w8.heap.size (Nat.le_refl _) (Nat.le_refl _) HVu_8.out.2.1 HVv_8.out.2.1 HVu_8.out.2.2 HVv_8.out.2.2).mono ?_
        rintro e w9 ⟨rfl, hb9⟩
        clear yc0 yc1 yl uc0 uc1 ul vc0 vc1 vl
        have HB9 := Lib.hid (bel_tr HB8.out (Nat.le_refl _) hb9)
        have HVy_9 := Lib.hid (HVy_8.out.fresh hb9)
        have HVu_9 := Lib.hid (HVu_8.out.fresh hb9)
        have HVv_9 := Lib.hid (HVv_8.out.fresh hb9)
        have HLl_9 := Lib.hid (HLl_8.out.fresh hb9)
        clear hb9
        obtain ⟨yc0, yc1, yl⟩ := HVy_9.out.cells
        obtain ⟨uc0, uc1, ul⟩ := HVu_9.out.cells
        obtain ⟨vc0, vc1, vl⟩ := HVv_9.out.cells
        go_wp2_with fail
        go_ret
        exact ⟨rfl, HB9.out⟩
      by_cases ht1 : 12 ≤ t
      · go_wp2_with fail
        refine (sameQua_any (R).main (R).areas Au Av (R).main.length cu cv Bu Bv (R).areas.length du dv w8 w.heap.size w8.heap.size w.heap.size w8.heap.size (Nat.le_refl _) (Nat.le_refl _) HVu_8.out.2.1 HVv_8.out.2.1 HVu_8.out.2.2 HVv_8.out.2.2).mono ?_
        rintro e w9 ⟨rfl, hb9⟩
        clear yc0 yc1 yl uc0 uc1 ul vc0 vc1 vl
        have HB9 := Lib.hid (bel_tr HB8.out (Nat.le_refl _) hb9)
        have HVy_9 := Lib.hid (HVy_8.out.fresh hb9)
        have HVu_9 := Lib.hid (HVu_8.out.fresh hb9)
        have HVv_9 := Lib.hid (HVv_8.out.fresh hb9)
        have HLl_9 := Lib.hid (HLl_8.out.fresh hb9)
        clear hb9
        obtain ⟨yc0, yc1, yl⟩ := HVy_9.out.cells
        obtain ⟨uc0, uc1, ul⟩ := HVu_9.out.cells
        obtain ⟨vc0, vc1, vl⟩ := HVv_9.out.cells
        go_wp2_with fail
        go_ret
        exact ⟨rfl, HB9.out⟩
      go_wp2_with fail
      refine (specStoreValid_any l L l.length cl w8 w.heap.size w8.heap.size (Nat.le_refl _) HLl_8.out).mono ?_
      rintro e w9 ⟨rfl, hb9⟩
      clear yc0 yc1 yl uc0 uc1 ul vc0 vc1 vl
      have HB9 := Lib.hid (bel_tr HB8.out (Nat.le_refl _) hb9)
      have HVy_9 := Lib.hid (HVy_8.out.fresh hb9)
      have HVu_9 := Lib.hid (HVu_8.out.fresh hb9)
      have HVv_9 := Lib.hid (HVv_8.out.fresh hb9)
      have HLl_9 := Lib.hid (HLl_8.out.fresh hb9)
      clear hb9
      obtain ⟨yc0, yc1, yl⟩ := HVy_9.out.cells
      obtain ⟨uc0, uc1, ul⟩ := HVu_9.out.cells
      obtain ⟨vc0, vc1, vl⟩ := HVv_9.out.cells
      rcases hs : storeB l with _ | _
      · clear hs
        go_wp2_with fail
        refine (sameQua_any (R).main (R).areas Au Av (R).main.length cu cv Bu Bv (R).areas.length du dv w9 w.heap.size w9.heap.size w.heap.size w9.heap.size (Nat.le_refl _) (Nat.le_refl _) HVu_9.out.2.1 HVv_9.out.2.1 HVu_9.out.2.2 HVv_9.out.2.2).mono ?_
        rintro e w10 ⟨rfl, hb10⟩
        clear yc0 yc1 yl uc0 uc1 ul vc0 vc1 vl
        have HB10 := Lib.hid (bel_tr HB9.out (Nat.le_refl _) hb10)
        have HVy_10 := Lib.hid (HVy_9.out.fresh hb10)
        have HVu_10 := Lib.hid (HVu_9.out.fresh hb10)
        have HVv_10 := Lib.hid (HVv_9.out.fresh hb10)
        have HLl_10 := Lib.hid (HLl_9.out.fresh hb10)
        clear hb10
        obtain ⟨yc0, yc1, yl⟩ := HVy_10.out.cells
        obtain ⟨uc0, uc1, ul⟩ := HVu_10.out.cells
        obtain ⟨vc0, vc1, vl⟩ := HVv_10.out.cells
        go_wp2_with fail
        go_ret
        exact ⟨rfl, HB10.out⟩
      have HSL := Lib.hid hs
      clear hs
      by_cases hl0 : l.length = 0
      · have hl1 : ((l.length : Int) == 0) = true := by simp [hl0]
        have hl2 : (l.length == 0) = true := by simp [hl0]
        clear hl0
        go_wp2_with fail
        refine (sameQua_any (R).main (R).areas Au Av (R).main.length cu cv Bu Bv (R).areas.length du dv w9 w.heap.size w9.heap.size w.heap.size w9.heap.size (Nat.le_refl _) (Nat.le_refl _) HVu_9.out.2.1 HVv_9.out.2.1 HVu_9.out.2.2 HVv_9.out.2.2).mono ?_
        rintro e w10 ⟨rfl, hb10⟩
        clear yc0 yc1 yl uc0 uc1 ul vc0 vc1 vl
        have HB10 := Lib.hid (bel_tr HB9.out (Nat.le_refl _) hb10)
        have HVy_10 := Lib.hid (HVy_9.out.fresh hb10)
        have HVu_10 := Lib.hid (HVu_9.out.fresh hb10)
        have HVv_10 := Lib.hid (HVv_9.out.fresh hb10)
        have HLl_10 := Lib.hid (HLl_9.out.fresh hb10)
        clear hb10
        obtain ⟨yc0, yc1, yl⟩ := HVy_10.out.cells
        obtain ⟨uc0, uc1, ul⟩ := HVu_10.out.cells
        obtain ⟨vc0, vc1, vl⟩ := HVv_10.out.cells
        go_wp2_with fail
        go_ret
        exact ⟨rfl, HB10.out⟩
      have hl1 : ((l.length : Int) == 0) = false := beq_false_of_ne (by omega)
      have hl2 : (l.length == 0) = false := beq_false_of_ne (by omega)
      have HT : Hid (txnB t = true) := Lib.hid (by unfold txnB; rw [inR_iff]; omega)
      have HPI : Hid (putIn Q t l = true) := Lib.hid (by unfold putIn; rw [HV.out, HT.out, fullB_yes HSL.out (by omega)]; rfl)
      have HRE : Hid (R = Q) := Lib.hid (by rw [HR.out]; exact quaPut_false HPI.out HBB.out.symm)
      have HA := Lib.hid ((quaB_iff _).1 HV.out).1.2
      have HAR := HA
      have HSO : Hid (storeB (areaL Q.areas t) = true) := Lib.hid (areaL_store HV.out t)
      have HSA := HSO
      have HOO : Hid (∀ o ∈ areaL Q.areas t, objB o = true) := Lib.hid ((storeB_iff _).1 HSO.out).1
      have HOM : Hid (∀ o ∈ areaL Q.areas t, o ∈ areaL Q.areas t) := Lib.hid fun o h => h
      have HVuq := HVu_9.out
      rw [HRE.out] at HVuq
      have HVu_9 := Lib.hid HVuq
      clear yc0 yc1 yl uc0 uc1 ul vc0 vc1 vl
      clear HVuq
      obtain ⟨yc0, yc1, yl⟩ := HVy_9.out.cells
      obtain ⟨uc0, uc1, ul⟩ := HVu_9.out.cells
      obtain ⟨vc0, vc1, vl⟩ := HVv_9.out.cells
      try dsimp only at yc0 yc1
      try dsimp only at uc0 uc1
      try dsimp only at vc0 vc1
      go_wp2_with fail
      refine (sameObjects_any Q.main Au A Q.main.length cu c w9 w.heap.size w9.heap.size w.heap.size w9.heap.size (Nat.le_refl _) (Nat.le_refl _) HVu_9.out.2.1 HVy_9.out.2.1).mono ?_
      rintro e w10 ⟨rfl, hb10⟩
      clear yc0 yc1 yl uc0 uc1 ul vc0 vc1 vl
      have HB10 := Lib.hid (bel_tr HB9.out (Nat.le_refl _) hb10)
      have HVy_10 := Lib.hid (HVy_9.out.fresh hb10)
      have HVu_10 := Lib.hid (HVu_9.out.fresh hb10)
      have HVv_10 := Lib.hid (HVv_9.out.fresh hb10)
      have HLl_10 := Lib.hid (HLl_9.out.fresh hb10)
      clear hb10
      obtain ⟨yc0, yc1, yl⟩ := HVy_10.out.cells
      obtain ⟨uc0, uc1, ul⟩ := HVu_10.out.cells
      obtain ⟨vc0, vc1, vl⟩ := HVv_10.out.cells
      try dsimp only at yc0 yc1
      try dsimp only at uc0 uc1
      try dsimp only at vc0 vc1
      go_wp2_with fail
      refine (areaOf_any (Q).areas t Au (Q).main.length cu Bu (Q).areas.length du w10 w.heap.size w10.heap.size (Nat.le_refl _) HAR.out HVu_10.out.2.2).mono ?_
      rintro e w11 ⟨Aa, na, ca, hra, hb11, rfl⟩
      have HNa := Lib.hid hra.len.1
      have HLa_11 : Hid (D.rd w11 w.heap.size w11.heap.size (dObjects (areaL (Q).areas t)) (.slice Aa na ca)) := Lib.hid (hra.more (Nat.le_refl _) hb11.size)
      clear hra
      clear yc0 yc1 yl uc0 uc1 ul vc0 vc1 vl
      have HB11 := Lib.hid (bel_tr HB10.out (Nat.le_refl _) hb11)
      have HVy_11 := Lib.hid (HVy_10.out.fresh hb11)
      have HVu_11 := Lib.hid (HVu_10.out.fresh hb11)
      have HVv_11 := Lib.hid (HVv_10.out.fresh hb11)
      have HLl_11 := Lib.hid (HLl_10.out.fresh hb11)
      clear hb11
      obtain ⟨yc0, yc1, yl⟩ := HVy_11.out.cells
      obtain ⟨uc0, uc1, ul⟩ := HVu_11.out.cells
      obtain ⟨vc0, vc1, vl⟩ := HVv_11.out.cells
      try dsimp only at yc0 yc1
      try dsimp only at uc0 uc1
      try dsimp only at vc0 vc1
      go_wp2_with fail
      refine (areaOf_any (Q).areas t A (Q).main.length c B (Q).areas.length d w11 w.heap.size w11.heap.size (Nat.le_refl _) HA.out HVy_11.out.2.2).mono ?_
      rintro e w12 ⟨Ao, no, co, hro, hb12, rfl⟩
      have HNo := Lib.hid hro.len.1
      have HLo_12 : Hid (D.rd w12 w.heap.size w12.heap.size (dObjects (areaL (Q).areas t)) (.slice Ao no co)) := Lib.hid (hro.more (Nat.le_refl _) hb12.size)
      clear hro
      clear yc0 yc1 yl uc0 uc1 ul vc0 vc1 vl
      have HB12 := Lib.hid (bel_tr HB11.out (Nat.le_refl _) hb12)
      have HVy_12 := Lib.hid (HVy_11.out.fresh hb12)
      have HVu_12 := Lib.hid (HVu_11.out.fresh hb12)
      have HVv_12 := Lib.hid (HVv_11.out.fresh hb12)
      have HLl_12 := Lib.hid (HLl_11.out.fresh hb12)
      have HLa_12 := Lib.hid (HLa_11.out.fresh hb12)
      clear hb12
      obtain ⟨yc0, yc1, yl⟩ := HVy_12.out.cells
      obtain ⟨uc0, uc1, ul⟩ := HVu_12.out.cells
      obtain ⟨vc0, vc1, vl⟩ := HVv_12.out.cells
      try dsimp only at yc0 yc1
      try dsimp only at uc0 uc1
      try dsimp only at vc0 vc1
      have hna16 : na ≤ 16 := by rw [HNa.out]; exact ((storeB_iff _).1 HSA.out).2.2
      have hno16 : no ≤ 16 := by rw [HNo.out]; exact ((storeB_iff _).1 HSO.out).2.2
      have hll16 : l.length ≤ 16 := ((storeB_iff _).1 HSL.out).2.2
      go_wp2_with fail
      go_loop [12] (fun i => i = .int .i64 0) (fun _ => 0)
      case atStart => rfl
      case round =>
        subst hrel
        go_wp2_with fail
        have HK0 : Hid (Below w12.heap.size w12 w12) := Lib.hid (Below.refl _ _)
        clear yc0 yc1 yl uc0 uc1 ul vc0 vc1 vl
        go_loopw [15] (fun i wr => ∃ k : Nat, k ≤ no ∧ i = .int .i64 k ∧ Hid (Below w12.heap.size w12 wr)) (fun i _ => no - (intOf i).toNat)
        case atStart => exact ⟨0, Nat.zero_le _, rfl, HK0⟩
        case round =>
          obtain ⟨k, hk, rfl, HK13⟩ := hrel
          obtain ⟨w13, hw13⟩ : ∃ z, z = wr := ⟨_, rfl⟩
          subst hw13
          have HB13 := Lib.hid (bel_tr HB12.out (Nat.le_refl _) HK13.out)
          have HVy_13 := Lib.hid (HVy_12.out.fresh HK13.out)
          have HVu_13 := Lib.hid (HVu_12.out.fresh HK13.out)
          have HVv_13 := Lib.hid (HVv_12.out.fresh HK13.out)
          have HLl_13 := Lib.hid (HLl_12.out.fresh HK13.out)
          have HLa_13 := Lib.hid (HLa_12.out.fresh HK13.out)
          have HLo_13 := Lib.hid (HLo_12.out.fresh HK13.out)
          have hws13 := HB13.out.size
          by_cases hlt : k < no
          · obtain ⟨b, o, hl, A1, n1, c1, rfl, _, hbh, hc0, hc1, hc2, ⟨hn1, hm1, hr1⟩, -⟩ := rd_Object HLo_13.out hlt
            have hOV := HOO.out _ (List.getElem_mem hl)
            have hME := HOM.out _ (List.getElem_mem hl)
            have HR1_13 := Lib.hid hr1
            obtain ⟨o1, ho1⟩ : ∃ o1, o1 = ((areaL Q.areas t))[k] := ⟨_, rfl⟩
            rw [← ho1] at hc0 hc2 hOV hME
            rw [← ho1] at HR1_13
            obtain ⟨kind, links, text⟩ := o1
            dsimp only at hc0 hc2 HR1_13
            have HOV := Lib.hid hOV
            have HME := Lib.hid hME
            obtain rfl : n1 = links.length := HR1_13.out.len.1
            have hl4 : links.length ≤ 4 := (objB_and hOV).2.1
            have lb : b < w13.heap.size := hbh
            clear hr1 ho1 hl hn1 hm1 hOV hME
            go_wp2_with fail
            refine (implId_any kind links text A1 links.length c1 w13 w.heap.size w13.heap.size (Nat.le_refl _) HOV.out HR1_13.out).mono ?_
            rintro e w14 ⟨rfl, hb14⟩
            have HR1_14 := Lib.hid (HR1_13.out.fresh hb14)
            replace hc0 := (hb14.cell lb).trans hc0
            replace hc1 := (hb14.cell lb).trans hc1
            replace hc2 := (hb14.cell lb).trans hc2
            replace lb := Nat.lt_of_lt_of_le lb hb14.size
            have HB14 := Lib.hid (bel_tr HB13.out (Nat.le_refl _) hb14)
            have HVy_14 := Lib.hid (HVy_13.out.fresh hb14)
            have HVu_14 := Lib.hid (HVu_13.out.fresh hb14)
            have HVv_14 := Lib.hid (HVv_13.out.fresh hb14)
            have HK14 := Lib.hid (bel_tr HK13.out (Nat.le_refl _) hb14)
            have HLl_14 := Lib.hid (HLl_13.out.fresh hb14)
            have HLa_14 := Lib.hid (HLa_13.out.fresh hb14)
            have HLo_14 := Lib.hid (HLo_13.out.fresh hb14)
            clear hb14
            go_wp2_with fail
            refine (getO_any (areaL Q.areas t) ⟨kind, links, text⟩ Aa na ca w14 w.heap.size w14.heap.size (Nat.le_refl _) HSA.out HME.out HLa_14.out).mono ?_
            rintro e w15 ⟨Ax, cx, hrx, hb15, rfl⟩
            dsimp only at hrx
            have HRX_15 := Lib.hid (hrx.more (lo' := w.heap.size) HB14.out.size (Nat.le_refl _))
            clear hrx
            have HR1_15 := Lib.hid (HR1_14.out.fresh hb15)
            replace hc0 := (hb15.cell lb).trans hc0
            replace hc1 := (hb15.cell lb).trans hc1
            replace hc2 := (hb15.cell lb).trans hc2
            replace lb := Nat.lt_of_lt_of_le lb hb15.size
            have HB15 := Lib.hid (bel_tr HB14.out (Nat.le_refl _) hb15)
            have HVy_15 := Lib.hid (HVy_14.out.fresh hb15)
            have HVu_15 := Lib.hid (HVu_14.out.fresh hb15)
            have HVv_15 := Lib.hid (HVv_14.out.fresh hb15)
            have HK15 := Lib.hid (bel_tr HK14.out (Nat.le_refl _) hb15)
            have HLl_15 := Lib.hid (HLl_14.out.fresh hb15)
            have HLa_15 := Lib.hid (HLa_14.out.fresh hb15)
            have HLo_15 := Lib.hid (HLo_14.out.fresh hb15)
            clear hb15
            obtain ⟨x, hx⟩ : ∃ z, z = w15.heap.size := ⟨_, rfl⟩
            obtain ⟨w16, hw16⟩ : ∃ z, z = w15.alloc (.cells #[.int .i64 kind, .slice Ax links.length cx, .string text] 58) := ⟨_, rfl⟩
            have hb16 : Below w15.heap.size w15 w16 := by rw [hw16]; exact (Below.refl _ _).alloc (Nat.le_refl _) _
            have HX : Hid (w16.heap[x]? = some (.cells #[.int .i64 kind, .slice Ax links.length cx, .string text] 58 (0, 0))) := by rw [hw16, hx]; exact Lib.hid (heap_alloc_new w15 _)
            have HRX_16 := Lib.hid (HRX_15.out.fresh hb16)
            have HR1_16 := Lib.hid (HR1_15.out.fresh hb16)
            replace hc0 := (hb16.cell lb).trans hc0
            replace hc1 := (hb16.cell lb).trans hc1
            replace hc2 := (hb16.cell lb).trans hc2
            replace lb := Nat.lt_of_lt_of_le lb hb16.size
            have HB16 := Lib.hid (bel_tr HB15.out (Nat.le_refl _) hb16)
            have HVy_16 := Lib.hid (HVy_15.out.fresh hb16)
            have HVu_16 := Lib.hid (HVu_15.out.fresh hb16)
            have HVv_16 := Lib.hid (HVv_15.out.fresh hb16)
            have HK16 := Lib.hid (bel_tr HK15.out (Nat.le_refl _) hb16)
            have HLl_16 := Lib.hid (HLl_15.out.fresh hb16)
            have HLa_16 := Lib.hid (HLa_15.out.fresh hb16)
            have HLo_16 := Lib.hid (HLo_15.out.fresh hb16)
            clear hb16
            go_upto_region 22 with (fail)
            rw [← hw16, ← hx]
            clear hw16 hx
            obtain ⟨x0, x1, x2, -, xl⟩ := box_cells HX.out
            go_wp2_with fail
            go_roundw
            case rel => exact ⟨k + 1, by omega, by go_num, HK16⟩
            case measure => simp [intOf]; omega
          · have hkq : k = no := by omega
            subst hkq
            obtain ⟨yc0, yc1, yl⟩ := HVy_13.out.cells
            obtain ⟨uc0, uc1, ul⟩ := HVu_13.out.cells
            obtain ⟨vc0, vc1, vl⟩ := HVv_13.out.cells
            try dsimp only at yc0 yc1
            try dsimp only at uc0 uc1
            try dsimp only at vc0 vc1
            go_wp2_with fail
            refine (sameQua_any (Q).main (Q).areas Au A (Q).main.length cu c Bu B (Q).areas.length du d w13 w.heap.size w13.heap.size w.heap.size w13.heap.size (Nat.le_refl _) (Nat.le_refl _) HVu_13.out.2.1 HVy_13.out.2.1 HVu_13.out.2.2 HVy_13.out.2.2).mono ?_
            rintro e w14 ⟨rfl, hb14⟩
            clear yc0 yc1 yl uc0 uc1 ul vc0 vc1 vl
            have HB14 := Lib.hid (bel_tr HB13.out (Nat.le_refl _) hb14)
            have HVy_14 := Lib.hid (HVy_13.out.fresh hb14)
            have HVu_14 := Lib.hid (HVu_13.out.fresh hb14)
            have HVv_14 := Lib.hid (HVv_13.out.fresh hb14)
            have HLl_14 := Lib.hid (HLl_13.out.fresh hb14)
            have HLa_14 := Lib.hid (HLa_13.out.fresh hb14)
            have HLo_14 := Lib.hid (HLo_13.out.fresh hb14)
            clear hb14
            obtain ⟨yc0, yc1, yl⟩ := HVy_14.out.cells
            obtain ⟨uc0, uc1, ul⟩ := HVu_14.out.cells
            obtain ⟨vc0, vc1, vl⟩ := HVv_14.out.cells
            go_wp2_with fail
            go_ret
            exact ⟨rfl, HB14.out⟩
    · have HPT := Lib.hid (quaPut_true (q := Q) (t := t) (l := l) HBB.out.symm)
      have HV := Lib.hid HPT.out.1
      have HA := Lib.hid ((quaB_iff _).1 HV.out).1.2
      have ht := (inR_iff _ _ _).1 (show inR t 0 11 = true from HPT.out.2.1)
      have ht0 : ¬ (t < 0) := by omega
      have ht1 : ¬ (12 ≤ t) := by omega
      clear ht
      have HSL := Lib.hid ((fullB_iff _).1 HPT.out.2.2.1).2
      have hl0 : 0 < l.length := List.length_pos_iff.2 ((fullB_iff _).1 HPT.out.2.2.1).1
      have hl1 : ((l.length : Int) == 0) = false := beq_false_of_ne (by omega)
      have hl2 : (l.length == 0) = false := beq_false_of_ne (by omega)
      go_wp2_with fail
      refine (sameQua_any (R).main (R).areas Au Av (R).main.length cu cv Bu Bv (R).areas.length du dv w6 w.heap.size w6.heap.size w.heap.size w6.heap.size (Nat.le_refl _) (Nat.le_refl _) HVu_6.out.2.1 HVv_6.out.2.1 HVu_6.out.2.2 HVv_6.out.2.2).mono ?_
      rintro e w7 ⟨rfl, hb7⟩
      clear yc0 yc1 yl uc0 uc1 ul vc0 vc1 vl
      have HB7 := Lib.hid (bel_tr HB6.out (Nat.le_refl _) hb7)
      have HVy_7 := Lib.hid (HVy_6.out.fresh hb7)
      have HVu_7 := Lib.hid (HVu_6.out.fresh hb7)
      have HVv_7 := Lib.hid (HVv_6.out.fresh hb7)
      have HLl_7 := Lib.hid (HLl_6.out.fresh hb7)
      clear hb7
      obtain ⟨yc0, yc1, yl⟩ := HVy_7.out.cells
      obtain ⟨uc0, uc1, ul⟩ := HVu_7.out.cells
      obtain ⟨vc0, vc1, vl⟩ := HVv_7.out.cells
      go_wp2_with fail
      refine (specQuaValid_any Q.main Q.areas A Q.main.length c B Q.areas.length d w7 w.heap.size w7.heap.size (Nat.le_refl _) HVy_7.out.2.1 HVy_7.out.2.2).mono ?_
      rintro e w8 ⟨rfl, hb8⟩
      clear yc0 yc1 yl uc0 uc1 ul vc0 vc1 vl
      have HB8 := Lib.hid (bel_tr HB7.out (Nat.le_refl _) hb8)
      have HVy_8 := Lib.hid (HVy_7.out.fresh hb8)
      have HVu_8 := Lib.hid (HVu_7.out.fresh hb8)
      have HVv_8 := Lib.hid (HVv_7.out.fresh hb8)
      have HLl_8 := Lib.hid (HLl_7.out.fresh hb8)
      clear hb8
      obtain ⟨yc0, yc1, yl⟩ := HVy_8.out.cells
      obtain ⟨uc0, uc1, ul⟩ := HVu_8.out.cells
      obtain ⟨vc0, vc1, vl⟩ := HVv_8.out.cells
      rw [show quaB ⟨Q.main, Q.areas⟩ = true from HV.out]
      go_wp2_with fail
      refine (specStoreValid_any l L l.length cl w8 w.heap.size w8.heap.size (Nat.le_refl _) HLl_8.out).mono ?_
      rintro e w9 ⟨rfl, hb9⟩
      clear yc0 yc1 yl uc0 uc1 ul vc0 vc1 vl
      have HB9 := Lib.hid (bel_tr HB8.out (Nat.le_refl _) hb9)
      have HVy_9 := Lib.hid (HVy_8.out.fresh hb9)
      have HVu_9 := Lib.hid (HVu_8.out.fresh hb9)
      have HVv_9 := Lib.hid (HVv_8.out.fresh hb9)
      have HLl_9 := Lib.hid (HLl_8.out.fresh hb9)
      clear hb9
      obtain ⟨yc0, yc1, yl⟩ := HVy_9.out.cells
      obtain ⟨uc0, uc1, ul⟩ := HVu_9.out.cells
      obtain ⟨vc0, vc1, vl⟩ := HVv_9.out.cells
      rw [HSL.out]
      have HVR : Hid (quaB R = true) := Lib.hid (by rw [HR.out]; exact quaPut_valid HBB.out.symm)
      obtain ⟨Z, hZ⟩ : ∃ Z, R = ⟨Q.main, Z⟩ := ⟨_, by rw [HR.out]; exact HPT.out.2.2.2.2.1⟩
      have HRE := Lib.hid hZ
      have HVZ : Hid (quaB ⟨Q.main, Z⟩ = true) := Lib.hid (by rw [← hZ]; exact HVR.out)
      have HZN : Hid (areaL Z t = newA Q t l) := Lib.hid (by have := HPT.out.2.2.2.2.2.2; rw [show quaPut Q t l = R from HR.out.symm, hZ] at this; exact this)
      have HAR : Hid (AscA Z) := Lib.hid ((quaB_iff _).1 HVZ.out).1.2
      have HSO : Hid (storeB (areaL Q.areas t) = true) := Lib.hid (areaL_store HV.out t)
      have HSA : Hid (storeB (areaL Z t) = true) := Lib.hid (areaL_store (q := ⟨Q.main, Z⟩) HVZ.out t)
      have HOO : Hid (∀ o ∈ areaL Q.areas t, objB o = true) := Lib.hid ((storeB_iff _).1 HSO.out).1
      have HLO : Hid (∀ o ∈ l, objB o = true) := Lib.hid ((storeB_iff _).1 HSL.out).1
      have HOM : Hid (∀ o ∈ areaL Q.areas t, o ∈ areaL Z t) := Lib.hid fun o h => by rw [HZN.out]; exact (allP_mem HPT.out.2.2.2.1 o).2 (.inl h)
      have HMM : Hid (∀ o ∈ l, o ∈ areaL Z t) := Lib.hid fun o h => by rw [HZN.out]; exact (allP_mem HPT.out.2.2.2.1 o).2 (.inr h)
      clear hZ
      have HVuq := HVu_9.out
      rw [HRE.out] at HVuq
      have HVu_9 := Lib.hid HVuq
      clear yc0 yc1 yl uc0 uc1 ul vc0 vc1 vl
      clear HVuq
      obtain ⟨yc0, yc1, yl⟩ := HVy_9.out.cells
      obtain ⟨uc0, uc1, ul⟩ := HVu_9.out.cells
      obtain ⟨vc0, vc1, vl⟩ := HVv_9.out.cells
      try dsimp only at yc0 yc1
      try dsimp only at uc0 uc1
      try dsimp only at vc0 vc1
      go_wp2_with fail
      refine (sameObjects_any Q.main Au A Q.main.length cu c w9 w.heap.size w9.heap.size w.heap.size w9.heap.size (Nat.le_refl _) (Nat.le_refl _) HVu_9.out.2.1 HVy_9.out.2.1).mono ?_
      rintro e w10 ⟨rfl, hb10⟩
      clear yc0 yc1 yl uc0 uc1 ul vc0 vc1 vl
      have HB10 := Lib.hid (bel_tr HB9.out (Nat.le_refl _) hb10)
      have HVy_10 := Lib.hid (HVy_9.out.fresh hb10)
      have HVu_10 := Lib.hid (HVu_9.out.fresh hb10)
      have HVv_10 := Lib.hid (HVv_9.out.fresh hb10)
      have HLl_10 := Lib.hid (HLl_9.out.fresh hb10)
      clear hb10
      obtain ⟨yc0, yc1, yl⟩ := HVy_10.out.cells
      obtain ⟨uc0, uc1, ul⟩ := HVu_10.out.cells
      obtain ⟨vc0, vc1, vl⟩ := HVv_10.out.cells
      try dsimp only at yc0 yc1
      try dsimp only at uc0 uc1
      try dsimp only at vc0 vc1
      go_wp2_with fail
      refine (areaOf_any ((⟨Q.main, Z⟩ : QuaD)).areas t Au ((⟨Q.main, Z⟩ : QuaD)).main.length cu Bu ((⟨Q.main, Z⟩ : QuaD)).areas.length du w10 w.heap.size w10.heap.size (Nat.le_refl _) HAR.out HVu_10.out.2.2).mono ?_
      rintro e w11 ⟨Aa, na, ca, hra, hb11, rfl⟩
      have HNa := Lib.hid hra.len.1
      have HLa_11 : Hid (D.rd w11 w.heap.size w11.heap.size (dObjects (areaL ((⟨Q.main, Z⟩ : QuaD)).areas t)) (.slice Aa na ca)) := Lib.hid (hra.more (Nat.le_refl _) hb11.size)
      clear hra
      clear yc0 yc1 yl uc0 uc1 ul vc0 vc1 vl
      have HB11 := Lib.hid (bel_tr HB10.out (Nat.le_refl _) hb11)
      have HVy_11 := Lib.hid (HVy_10.out.fresh hb11)
      have HVu_11 := Lib.hid (HVu_10.out.fresh hb11)
      have HVv_11 := Lib.hid (HVv_10.out.fresh hb11)
      have HLl_11 := Lib.hid (HLl_10.out.fresh hb11)
      clear hb11
      obtain ⟨yc0, yc1, yl⟩ := HVy_11.out.cells
      obtain ⟨uc0, uc1, ul⟩ := HVu_11.out.cells
      obtain ⟨vc0, vc1, vl⟩ := HVv_11.out.cells
      try dsimp only at yc0 yc1
      try dsimp only at uc0 uc1
      try dsimp only at vc0 vc1
      go_wp2_with fail
      refine (areaOf_any (Q).areas t A (Q).main.length c B (Q).areas.length d w11 w.heap.size w11.heap.size (Nat.le_refl _) HA.out HVy_11.out.2.2).mono ?_
      rintro e w12 ⟨Ao, no, co, hro, hb12, rfl⟩
      have HNo := Lib.hid hro.len.1
      have HLo_12 : Hid (D.rd w12 w.heap.size w12.heap.size (dObjects (areaL (Q).areas t)) (.slice Ao no co)) := Lib.hid (hro.more (Nat.le_refl _) hb12.size)
      clear hro
      clear yc0 yc1 yl uc0 uc1 ul vc0 vc1 vl
      have HB12 := Lib.hid (bel_tr HB11.out (Nat.le_refl _) hb12)
      have HVy_12 := Lib.hid (HVy_11.out.fresh hb12)
      have HVu_12 := Lib.hid (HVu_11.out.fresh hb12)
      have HVv_12 := Lib.hid (HVv_11.out.fresh hb12)
      have HLl_12 := Lib.hid (HLl_11.out.fresh hb12)
      have HLa_12 := Lib.hid (HLa_11.out.fresh hb12)
      clear hb12
      obtain ⟨yc0, yc1, yl⟩ := HVy_12.out.cells
      obtain ⟨uc0, uc1, ul⟩ := HVu_12.out.cells
      obtain ⟨vc0, vc1, vl⟩ := HVv_12.out.cells
      try dsimp only at yc0 yc1
      try dsimp only at uc0 uc1
      try dsimp only at vc0 vc1
      have hna16 : na ≤ 16 := by rw [HNa.out]; exact ((storeB_iff _).1 HSA.out).2.2
      have hno16 : no ≤ 16 := by rw [HNo.out]; exact ((storeB_iff _).1 HSO.out).2.2
      have hll16 : l.length ≤ 16 := ((storeB_iff _).1 HSL.out).2.2
      go_wp2_with fail
      have HK0 : Hid (Below w12.heap.size w12 w12) := Lib.hid (Below.refl _ _)
      clear yc0 yc1 yl uc0 uc1 ul vc0 vc1 vl
      go_loopw [12] (fun i wr => ∃ k : Nat, k ≤ l.length ∧ i = .int .i64 k ∧ Hid (Below w12.heap.size w12 wr)) (fun i _ => l.length - (intOf i).toNat)
      case atStart => exact ⟨0, Nat.zero_le _, rfl, HK0⟩
      case round =>
        obtain ⟨k, hk, rfl, HK13⟩ := hrel
        obtain ⟨w13, hw13⟩ : ∃ z, z = wr := ⟨_, rfl⟩
        subst hw13
        have HB13 := Lib.hid (bel_tr HB12.out (Nat.le_refl _) HK13.out)
        have HVy_13 := Lib.hid (HVy_12.out.fresh HK13.out)
        have HVu_13 := Lib.hid (HVu_12.out.fresh HK13.out)
        have HVv_13 := Lib.hid (HVv_12.out.fresh HK13.out)
        have HLl_13 := Lib.hid (HLl_12.out.fresh HK13.out)
        have HLa_13 := Lib.hid (HLa_12.out.fresh HK13.out)
        have HLo_13 := Lib.hid (HLo_12.out.fresh HK13.out)
        have hws13 := HB13.out.size
        by_cases hlt : k < l.length
        · obtain ⟨b, o, hl, A1, n1, c1, rfl, _, hbh, hc0, hc1, hc2, ⟨hn1, hm1, hr1⟩, -⟩ := rd_Object HLl_13.out hlt
          have hOV := HLO.out _ (List.getElem_mem hl)
          have hME := HMM.out _ (List.getElem_mem hl)
          have HR1_13 := Lib.hid hr1
          obtain ⟨o1, ho1⟩ : ∃ o1, o1 = (l)[k] := ⟨_, rfl⟩
          rw [← ho1] at hc0 hc2 hOV hME
          rw [← ho1] at HR1_13
          obtain ⟨kind, links, text⟩ := o1
          dsimp only at hc0 hc2 HR1_13
          have HOV := Lib.hid hOV
          have HME := Lib.hid hME
          obtain rfl : n1 = links.length := HR1_13.out.len.1
          have hl4 : links.length ≤ 4 := (objB_and hOV).2.1
          have lb : b < w13.heap.size := hbh
          clear hr1 ho1 hl hn1 hm1 hOV hME
          go_wp2_with fail
          refine (implId_any kind links text A1 links.length c1 w13 w.heap.size w13.heap.size (Nat.le_refl _) HOV.out HR1_13.out).mono ?_
          rintro e w14 ⟨rfl, hb14⟩
          have HR1_14 := Lib.hid (HR1_13.out.fresh hb14)
          replace hc0 := (hb14.cell lb).trans hc0
          replace hc1 := (hb14.cell lb).trans hc1
          replace hc2 := (hb14.cell lb).trans hc2
          replace lb := Nat.lt_of_lt_of_le lb hb14.size
          have HB14 := Lib.hid (bel_tr HB13.out (Nat.le_refl _) hb14)
          have HVy_14 := Lib.hid (HVy_13.out.fresh hb14)
          have HVu_14 := Lib.hid (HVu_13.out.fresh hb14)
          have HVv_14 := Lib.hid (HVv_13.out.fresh hb14)
          have HK14 := Lib.hid (bel_tr HK13.out (Nat.le_refl _) hb14)
          have HLl_14 := Lib.hid (HLl_13.out.fresh hb14)
          have HLa_14 := Lib.hid (HLa_13.out.fresh hb14)
          have HLo_14 := Lib.hid (HLo_13.out.fresh hb14)
          clear hb14
          go_wp2_with fail
          refine (getO_any (areaL (⟨Q.main, Z⟩ : QuaD).areas t) ⟨kind, links, text⟩ Aa na ca w14 w.heap.size w14.heap.size (Nat.le_refl _) HSA.out HME.out HLa_14.out).mono ?_
          rintro e w15 ⟨Ax, cx, hrx, hb15, rfl⟩
          dsimp only at hrx
          have HRX_15 := Lib.hid (hrx.more (lo' := w.heap.size) HB14.out.size (Nat.le_refl _))
          clear hrx
          have HR1_15 := Lib.hid (HR1_14.out.fresh hb15)
          replace hc0 := (hb15.cell lb).trans hc0
          replace hc1 := (hb15.cell lb).trans hc1
          replace hc2 := (hb15.cell lb).trans hc2
          replace lb := Nat.lt_of_lt_of_le lb hb15.size
          have HB15 := Lib.hid (bel_tr HB14.out (Nat.le_refl _) hb15)
          have HVy_15 := Lib.hid (HVy_14.out.fresh hb15)
          have HVu_15 := Lib.hid (HVu_14.out.fresh hb15)
          have HVv_15 := Lib.hid (HVv_14.out.fresh hb15)
          have HK15 := Lib.hid (bel_tr HK14.out (Nat.le_refl _) hb15)
          have HLl_15 := Lib.hid (HLl_14.out.fresh hb15)
          have HLa_15 := Lib.hid (HLa_14.out.fresh hb15)
          have HLo_15 := Lib.hid (HLo_14.out.fresh hb15)
          clear hb15
          obtain ⟨x, hx⟩ : ∃ z, z = w15.heap.size := ⟨_, rfl⟩
          obtain ⟨w16, hw16⟩ : ∃ z, z = w15.alloc (.cells #[.int .i64 kind, .slice Ax links.length cx, .string text] 58) := ⟨_, rfl⟩
          have hb16 : Below w15.heap.size w15 w16 := by rw [hw16]; exact (Below.refl _ _).alloc (Nat.le_refl _) _
          have HX : Hid (w16.heap[x]? = some (.cells #[.int .i64 kind, .slice Ax links.length cx, .string text] 58 (0, 0))) := by rw [hw16, hx]; exact Lib.hid (heap_alloc_new w15 _)
          have HRX_16 := Lib.hid (HRX_15.out.fresh hb16)
          have HR1_16 := Lib.hid (HR1_15.out.fresh hb16)
          replace hc0 := (hb16.cell lb).trans hc0
          replace hc1 := (hb16.cell lb).trans hc1
          replace hc2 := (hb16.cell lb).trans hc2
          replace lb := Nat.lt_of_lt_of_le lb hb16.size
          have HB16 := Lib.hid (bel_tr HB15.out (Nat.le_refl _) hb16)
          have HVy_16 := Lib.hid (HVy_15.out.fresh hb16)
          have HVu_16 := Lib.hid (HVu_15.out.fresh hb16)
          have HVv_16 := Lib.hid (HVv_15.out.fresh hb16)
          have HK16 := Lib.hid (bel_tr HK15.out (Nat.le_refl _) hb16)
          have HLl_16 := Lib.hid (HLl_15.out.fresh hb16)
          have HLa_16 := Lib.hid (HLa_15.out.fresh hb16)
          have HLo_16 := Lib.hid (HLo_15.out.fresh hb16)
          clear hb16
          go_upto_region 16 with (fail)
          rw [← hw16, ← hx]
          clear hw16 hx
          obtain ⟨x0, x1, x2, -, xl⟩ := box_cells HX.out
          have tok1 : True := trivial
          have HI1 := Lib.hid HRX_16.out.drew.ints
          have HI2 := Lib.hid HR1_16.out.drew.ints
          go_region_held_law (fun w' => w'.cell? ⟨x, 0, none⟩ = some (.int .i64 kind) ∧ w'.cell? ⟨x, 1, none⟩ = some (.slice Ax links.length cx) ∧ w'.cell? ⟨x, 2, none⟩ = some (.string text) ∧ w'.cell? ⟨b, o + k * 3, none⟩ = some (.int .i64 kind) ∧ w'.cell? ⟨b, o + k * 3 + 1, none⟩ = some (.slice A1 links.length c1) ∧ w'.cell? ⟨b, o + k * 3 + 2, none⟩ = some (.string text)) (go_keep)
            ((go_at_call 39; have _t := tok1; refine (sameObject_any kind links text Ax A1 links.length cx c1 w16.drew w.heap.size w16.heap.size w.heap.size w16.heap.size (Nat.le_refl _) (Nat.le_refl _) (by omega) HI1.out HI2.out).mono ?_; rintro e w17 ⟨rfl, hbd⟩; have hb17 := below_of_drew hbd; replace x0 := (hb17.cell xl).trans x0; replace x1 := (hb17.cell xl).trans x1; replace x2 := (hb17.cell xl).trans x2; replace hc0 := (hb17.cell lb).trans hc0; replace hc1 := (hb17.cell lb).trans hc1; replace hc2 := (hb17.cell lb).trans hc2; have HB17 := Lib.hid (bel_tr HB16.out (Nat.le_refl _) hb17); have HK17 := Lib.hid (bel_tr HK16.out (Nat.le_refl _) hb17); clear tok1 hbd hb17))
          all_goals
            go_wp2_with fail
            go_roundw
            case rel => exact ⟨k + 1, by omega, by go_num, HK17⟩
            case measure => simp [intOf]; omega
        · have hkq : k = l.length := by omega
          subst hkq
          obtain ⟨yc0, yc1, yl⟩ := HVy_13.out.cells
          obtain ⟨uc0, uc1, ul⟩ := HVu_13.out.cells
          obtain ⟨vc0, vc1, vl⟩ := HVv_13.out.cells
          try dsimp only at yc0 yc1
          try dsimp only at uc0 uc1
          try dsimp only at vc0 vc1
          go_wp2_with fail
          have HK0 : Hid (Below w13.heap.size w13 w13) := Lib.hid (Below.refl _ _)
          clear yc0 yc1 yl uc0 uc1 ul vc0 vc1 vl
          go_loopw [15] (fun i wr => ∃ k : Nat, k ≤ no ∧ i = .int .i64 k ∧ Hid (Below w13.heap.size w13 wr)) (fun i _ => no - (intOf i).toNat)
          case atStart => exact ⟨0, Nat.zero_le _, rfl, HK0⟩
          case round =>
            obtain ⟨k, hk, rfl, HK14⟩ := hrel
            obtain ⟨w14, hw14⟩ : ∃ z, z = wr := ⟨_, rfl⟩
            subst hw14
            have HB14 := Lib.hid (bel_tr HB13.out (Nat.le_refl _) HK14.out)
            have HVy_14 := Lib.hid (HVy_13.out.fresh HK14.out)
            have HVu_14 := Lib.hid (HVu_13.out.fresh HK14.out)
            have HVv_14 := Lib.hid (HVv_13.out.fresh HK14.out)
            have HLl_14 := Lib.hid (HLl_13.out.fresh HK14.out)
            have HLa_14 := Lib.hid (HLa_13.out.fresh HK14.out)
            have HLo_14 := Lib.hid (HLo_13.out.fresh HK14.out)
            have hws14 := HB14.out.size
            by_cases hlt : k < no
            · obtain ⟨b, o, hl, A1, n1, c1, rfl, _, hbh, hc0, hc1, hc2, ⟨hn1, hm1, hr1⟩, -⟩ := rd_Object HLo_14.out hlt
              have hOV := HOO.out _ (List.getElem_mem hl)
              have hME := HOM.out _ (List.getElem_mem hl)
              have HR1_14 := Lib.hid hr1
              obtain ⟨o1, ho1⟩ : ∃ o1, o1 = ((areaL Q.areas t))[k] := ⟨_, rfl⟩
              rw [← ho1] at hc0 hc2 hOV hME
              rw [← ho1] at HR1_14
              obtain ⟨kind, links, text⟩ := o1
              dsimp only at hc0 hc2 HR1_14
              have HOV := Lib.hid hOV
              have HME := Lib.hid hME
              obtain rfl : n1 = links.length := HR1_14.out.len.1
              have hl4 : links.length ≤ 4 := (objB_and hOV).2.1
              have lb : b < w14.heap.size := hbh
              clear hr1 ho1 hl hn1 hm1 hOV hME
              go_wp2_with fail
              refine (implId_any kind links text A1 links.length c1 w14 w.heap.size w14.heap.size (Nat.le_refl _) HOV.out HR1_14.out).mono ?_
              rintro e w15 ⟨rfl, hb15⟩
              have HR1_15 := Lib.hid (HR1_14.out.fresh hb15)
              replace hc0 := (hb15.cell lb).trans hc0
              replace hc1 := (hb15.cell lb).trans hc1
              replace hc2 := (hb15.cell lb).trans hc2
              replace lb := Nat.lt_of_lt_of_le lb hb15.size
              have HB15 := Lib.hid (bel_tr HB14.out (Nat.le_refl _) hb15)
              have HVy_15 := Lib.hid (HVy_14.out.fresh hb15)
              have HVu_15 := Lib.hid (HVu_14.out.fresh hb15)
              have HVv_15 := Lib.hid (HVv_14.out.fresh hb15)
              have HK15 := Lib.hid (bel_tr HK14.out (Nat.le_refl _) hb15)
              have HLl_15 := Lib.hid (HLl_14.out.fresh hb15)
              have HLa_15 := Lib.hid (HLa_14.out.fresh hb15)
              have HLo_15 := Lib.hid (HLo_14.out.fresh hb15)
              clear hb15
              go_wp2_with fail
              refine (getO_any (areaL (⟨Q.main, Z⟩ : QuaD).areas t) ⟨kind, links, text⟩ Aa na ca w15 w.heap.size w15.heap.size (Nat.le_refl _) HSA.out HME.out HLa_15.out).mono ?_
              rintro e w16 ⟨Ax, cx, hrx, hb16, rfl⟩
              dsimp only at hrx
              have HRX_16 := Lib.hid (hrx.more (lo' := w.heap.size) HB15.out.size (Nat.le_refl _))
              clear hrx
              have HR1_16 := Lib.hid (HR1_15.out.fresh hb16)
              replace hc0 := (hb16.cell lb).trans hc0
              replace hc1 := (hb16.cell lb).trans hc1
              replace hc2 := (hb16.cell lb).trans hc2
              replace lb := Nat.lt_of_lt_of_le lb hb16.size
              have HB16 := Lib.hid (bel_tr HB15.out (Nat.le_refl _) hb16)
              have HVy_16 := Lib.hid (HVy_15.out.fresh hb16)
              have HVu_16 := Lib.hid (HVu_15.out.fresh hb16)
              have HVv_16 := Lib.hid (HVv_15.out.fresh hb16)
              have HK16 := Lib.hid (bel_tr HK15.out (Nat.le_refl _) hb16)
              have HLl_16 := Lib.hid (HLl_15.out.fresh hb16)
              have HLa_16 := Lib.hid (HLa_15.out.fresh hb16)
              have HLo_16 := Lib.hid (HLo_15.out.fresh hb16)
              clear hb16
              obtain ⟨x, hx⟩ : ∃ z, z = w16.heap.size := ⟨_, rfl⟩
              obtain ⟨w17, hw17⟩ : ∃ z, z = w16.alloc (.cells #[.int .i64 kind, .slice Ax links.length cx, .string text] 58) := ⟨_, rfl⟩
              have hb17 : Below w16.heap.size w16 w17 := by rw [hw17]; exact (Below.refl _ _).alloc (Nat.le_refl _) _
              have HX : Hid (w17.heap[x]? = some (.cells #[.int .i64 kind, .slice Ax links.length cx, .string text] 58 (0, 0))) := by rw [hw17, hx]; exact Lib.hid (heap_alloc_new w16 _)
              have HRX_17 := Lib.hid (HRX_16.out.fresh hb17)
              have HR1_17 := Lib.hid (HR1_16.out.fresh hb17)
              replace hc0 := (hb17.cell lb).trans hc0
              replace hc1 := (hb17.cell lb).trans hc1
              replace hc2 := (hb17.cell lb).trans hc2
              replace lb := Nat.lt_of_lt_of_le lb hb17.size
              have HB17 := Lib.hid (bel_tr HB16.out (Nat.le_refl _) hb17)
              have HVy_17 := Lib.hid (HVy_16.out.fresh hb17)
              have HVu_17 := Lib.hid (HVu_16.out.fresh hb17)
              have HVv_17 := Lib.hid (HVv_16.out.fresh hb17)
              have HK17 := Lib.hid (bel_tr HK16.out (Nat.le_refl _) hb17)
              have HLl_17 := Lib.hid (HLl_16.out.fresh hb17)
              have HLa_17 := Lib.hid (HLa_16.out.fresh hb17)
              have HLo_17 := Lib.hid (HLo_16.out.fresh hb17)
              clear hb17
              go_upto_region 22 with (fail)
              rw [← hw17, ← hx]
              clear hw17 hx
              obtain ⟨x0, x1, x2, -, xl⟩ := box_cells HX.out
              go_wp2_with fail
              go_roundw
              case rel => exact ⟨k + 1, by omega, by go_num, HK17⟩
              case measure => simp [intOf]; omega
            · have hkq : k = no := by omega
              subst hkq
              obtain ⟨yc0, yc1, yl⟩ := HVy_14.out.cells
              obtain ⟨uc0, uc1, ul⟩ := HVu_14.out.cells
              obtain ⟨vc0, vc1, vl⟩ := HVv_14.out.cells
              try dsimp only at yc0 yc1
              try dsimp only at uc0 uc1
              try dsimp only at vc0 vc1
              go_wp2_with fail
              go_ret
              exact ⟨rfl, HB14.out⟩

set_option linter.unusedVariables false
set_option maxRecDepth 100000 in
theorem lifted (os : Os) (started : os.Started) (H : Type) (enc : TypeId × Value → H) :
    ReturnsInHanded {} Try.checked os 7 .any (Rows.fnQuarPutSpec.pre6 enc Try.prog Try.f7 Rows.fnQuarPutRow.domain false) (Rows.fnQuarPutSpec.post enc Try.prog Try.f7 false true false false) := by
  refine returnsInHanded_of_change (C := Try.checked) Try.own started (by kernel_rfl) Try.func7
    (ChangeSpec.witness6 (enc := enc) (C := Try.checked) false ⟨#[], #[.slice none 0 0], []⟩ 8 (by kernel_rfl) (by kernel_rfl) (by kernel_rfl) (by kernel_rfl)) ?_
  intro W base args ds gs before hval0 hW hcnd _
  have hval : ∀ (j : Nat) t v, Try.f7.params[j]? = some t → args[j]? = some v → Value.okWide Try.prog W .any base t v := hval0
  have hW' := hW
  obtain ⟨p, q, hA0, hV, rfl, hfz, hnd⟩ := hW
  have hA : DataW.TrodAll enc Try.prog W 0 (fun _ => true) true Try.f7.params.toList args.toList ds p := hA0
  rw [Try.params7] at hA hval
  obtain ⟨v0, vs0, d0, ds0, p0, q0, hargs, rfl, rfl, h0, r0⟩ := trodAll_cons hA
  obtain ⟨rfl, rfl, rfl⟩ := trodAll_nil r0
  obtain rfl : args = #[v0] := by cases args; simp_all
  obtain ⟨rfl, rfl⟩ := trodVars_none hV
  have k0 := h0
  have lt0 : ∀ x ∈ p0, x.block < W.heap.size := by obtain ⟨m, hm⟩ := k0; exact DataW.trod_lt m _ _ _ hm
  obtain ⟨a0, len0, cap0, rfl⟩ := okWide_slice Try.underlying41 (hval 0 41 v0 rfl rfl)
  obtain ⟨z0, w0⟩ := open_row (k := .u8) Try.underlying41 Try.underlying5 (by kernel_rfl) h0 (fun _ => rfl)
  clear hA0 hval0
  refine (walk a0 len0 cap0 z0 W w0).mono fun e W' ⟨he, bel⟩ => ?_
  subst he
  exact ⟨_, rfl, _, _, _, [], _, [], hW', trodAll_mk1 (shut_bool Try.underlying4 _), (trodAll_cons_mk (Below.trod Try.laidOut (by kernel_rfl) (of_decide_eq_true (by kernel_rfl)) k0 bel lt0) trodAll_mk0), rfl, bel.frame _, fun h => by cases h⟩

theorem proved : Rows.FnQuarPutSaid :=
  OpenClaim.holds_of_wide 7 Try.f7 rfl rfl rfl rfl rfl rfl rfl ⟨rfl, rfl, rfl, rfl, rfl⟩ rfl rfl rfl rfl rfl (by kernel_rfl) Try.func7 (by kernel_rfl)
    (of_decide_eq_true (by kernel_rfl)) (by unfold Func.isWrapper; first | (rw [if_pos (by decide +kernel)]; kernel_rfl) | (rw [if_neg (by decide +kernel)]; exact ⟨rfl, rfl⟩))
    (fun os started H enc _ => lifted os started H enc)

#print axioms proved
end Go.Proofs.Ytgpjcmplnigmcaa.fnQuarPut
