/-
  For every code: QuarantinePromote of a drawn quarantine answers as the reference; what is promoted is in the main store, the area is gone, and the quarantine is valid. No condition.
-/
import Derived.Test.YtgpjcmplnigmcaaQuaK
import Derived.Deep.DeepCutAuto
namespace Go.Proofs.Ytgpjcmplnigmcaa.fnPromote
set_option linter.unusedVariables false
set_option linter.unusedSimpArgs false
open Go.ChangeShapes Go.WideShapes Go.ChangeAt Go.RowKit

set_option maxRecDepth 100000 in
set_option maxHeartbeats 6400000 in
theorem walk (a0 : Option Addr) (len0 cap0 : Nat) (z0 : List Int) (w : World) (w0 : IsRow .u8 w a0 len0 cap0 z0) :
    Calls Try.prog 9 #[.slice a0 len0 cap0] w fun e w' => e = .returned (.bool true) ∧ Below w.heap.size w w' := by
  have hn := w0.bd
  have HI := Lib.hid w0
  clear w0
  by_cases hbig : 1048576 < len0
  · go_enter Try.func9, Try.ntmps9
    go_wp2
    go_ret
    exact ⟨rfl, Below.refl _ _⟩
  · have hs_len0 : len0 ≤ 1048576 := by omega
    clear hbig
    go_enter Try.func9, Try.ntmps9
    go_wp2_with fail
    refine (drawQPro_any _ _ _ z0 _ HI.out).mono ?_
    rintro e w1 ⟨Q, t, A, n, c, B, m, d, hm, ha, hQ, hb1, rfl⟩
    obtain rfl : n = Q.main.length := hm.len.1
    obtain rfl : m = Q.areas.length := ha.len.1
    have HQ := Lib.hid hQ
    have hq17 : Q.main.length ≤ 17 := hQ.2.1
    have hqa : Q.areas.length ≤ 5 := hQ.2.2.2
    have HB1 := Lib.hid hb1
    obtain ⟨y, hy⟩ : ∃ z, z = w1.heap.size := ⟨_, rfl⟩
    obtain ⟨w2, hw2⟩ : ∃ z, z = w1.alloc (.cells #[.slice A Q.main.length c, .slice B Q.areas.length d] 31) := ⟨_, rfl⟩
    have hb2 : Below w1.heap.size w1 w2 := by rw [hw2]; exact (Below.refl _ _).alloc (Nat.le_refl _) _
    have HVy_2 : Hid (QV w w2 y Q A c B d) := by rw [hw2, hy]; exact Lib.hid (QV.mk_ hm ha)
    have HB2 := Lib.hid (bel_tr HB1.out (Nat.le_refl _) hb2)
    clear hm ha  hQ hb1 hb2
    go_upto_region 4 with (fail)
    rw [← hw2, ← hy]
    clear hw2 hy
    obtain ⟨yc0, yc1, yl⟩ := HVy_2.out.cells
    go_wp2_with fail
    refine (implPromote_any (Q).main (Q).areas t A (Q).main.length c B (Q).areas.length d w2 w.heap.size w2.heap.size (Nat.le_refl _) HVy_2.out.2.1 HVy_2.out.2.2).mono ?_
    rintro e w3 ⟨Au, nu, cu, Bu, mu, du, hqu, hb3, rfl⟩
    obtain ⟨rfl, rfl, hr1, hr2⟩ := hqu.rd2
    obtain ⟨R, hR⟩ : ∃ Z, Z = quaPro ⟨Q.main, Q.areas⟩ t := ⟨_, rfl⟩
    have HR := Lib.hid hR
    rw [← hR] at hr1 hr2
    rw [← hR]
    have HR1 := Lib.hid (hr1.more (lo' := w.heap.size) HB2.out.size (Nat.le_refl _))
    have HR2 := Lib.hid (hr2.more (lo' := w.heap.size) HB2.out.size (Nat.le_refl _))
    clear hqu hr1 hr2 hR
    clear yc0 yc1 yl
    have HB3 := Lib.hid (bel_tr HB2.out (Nat.le_refl _) hb3)
    have HVy_3 := Lib.hid (HVy_2.out.fresh hb3)
    clear hb3
    obtain ⟨u, hu⟩ : ∃ z, z = w3.heap.size := ⟨_, rfl⟩
    obtain ⟨w4, hw4⟩ : ∃ z, z = w3.alloc (.cells #[.slice Au R.main.length cu, .slice Bu R.areas.length du] 31) := ⟨_, rfl⟩
    have hb4 : Below w3.heap.size w3 w4 := by rw [hw4]; exact (Below.refl _ _).alloc (Nat.le_refl _) _
    have HVu_4 : Hid (QV w w4 u R Au cu Bu du) := by rw [hw4, hu]; exact Lib.hid (QV.mk_ HR1.out HR2.out)
    have HB4 := Lib.hid (bel_tr HB3.out (Nat.le_refl _) hb4)
    have HVy_4 := Lib.hid (HVy_3.out.fresh hb4)
    clear hb4
    go_upto_region 5 with (fail)
    rw [← hw4, ← hu]
    clear hw4 hu HR1 HR2
    obtain ⟨yc0, yc1, yl⟩ := HVy_4.out.cells
    obtain ⟨uc0, uc1, ul⟩ := HVu_4.out.cells
    go_wp2_with fail
    refine (specPromote_any (Q).main (Q).areas t A (Q).main.length c B (Q).areas.length d w4 w.heap.size w4.heap.size (Nat.le_refl _) HVy_4.out.2.1 HVy_4.out.2.2).mono ?_
    rintro e w5 ⟨Av, nv, cv, Bv, mv, dv, hqv, hb5, rfl⟩
    obtain ⟨rfl, rfl, hr1, hr2⟩ := hqv.rd2
    have hR := HR.out
    rw [← hR] at hr1 hr2
    rw [← hR]
    have HR1 := Lib.hid (hr1.more (lo' := w.heap.size) HB4.out.size (Nat.le_refl _))
    have HR2 := Lib.hid (hr2.more (lo' := w.heap.size) HB4.out.size (Nat.le_refl _))
    clear hqv hr1 hr2 hR
    clear yc0 yc1 yl uc0 uc1 ul
    have HB5 := Lib.hid (bel_tr HB4.out (Nat.le_refl _) hb5)
    have HVy_5 := Lib.hid (HVy_4.out.fresh hb5)
    have HVu_5 := Lib.hid (HVu_4.out.fresh hb5)
    clear hb5
    obtain ⟨v, hv⟩ : ∃ z, z = w5.heap.size := ⟨_, rfl⟩
    obtain ⟨w6, hw6⟩ : ∃ z, z = w5.alloc (.cells #[.slice Av R.main.length cv, .slice Bv R.areas.length dv] 31) := ⟨_, rfl⟩
    have hb6 : Below w5.heap.size w5 w6 := by rw [hw6]; exact (Below.refl _ _).alloc (Nat.le_refl _) _
    have HVv_6 : Hid (QV w w6 v R Av cv Bv dv) := by rw [hw6, hv]; exact Lib.hid (QV.mk_ HR1.out HR2.out)
    have HB6 := Lib.hid (bel_tr HB5.out (Nat.le_refl _) hb6)
    have HVy_6 := Lib.hid (HVy_5.out.fresh hb6)
    have HVu_6 := Lib.hid (HVu_5.out.fresh hb6)
    clear hb6
    go_upto_region 6 with (fail)
    rw [← hw6, ← hv]
    clear hw6 hv HR1 HR2
    obtain ⟨yc0, yc1, yl⟩ := HVy_6.out.cells
    obtain ⟨uc0, uc1, ul⟩ := HVu_6.out.cells
    obtain ⟨vc0, vc1, vl⟩ := HVv_6.out.cells
    obtain ⟨b, hb⟩ : ∃ b, b = quaProB ⟨Q.main, Q.areas⟩ t := ⟨_, rfl⟩
    have HBB := Lib.hid hb
    rw [← hb]
    clear hb
    rcases b with _ | _
    · go_wp2_with fail
      refine (sameQua_any (R).main (R).areas Au Av (R).main.length cu cv Bu Bv (R).areas.length du dv w6 w.heap.size w6.heap.size w.heap.size w6.heap.size (Nat.le_refl _) (Nat.le_refl _) HVu_6.out.2.1 HVv_6.out.2.1 HVu_6.out.2.2 HVv_6.out.2.2).mono ?_
      rintro e w7 ⟨rfl, hb7⟩
      clear yc0 yc1 yl uc0 uc1 ul vc0 vc1 vl
      have HB7 := Lib.hid (bel_tr HB6.out (Nat.le_refl _) hb7)
      have HVy_7 := Lib.hid (HVy_6.out.fresh hb7)
      have HVu_7 := Lib.hid (HVu_6.out.fresh hb7)
      have HVv_7 := Lib.hid (HVv_6.out.fresh hb7)
      clear hb7
      obtain ⟨yc0, yc1, yl⟩ := HVy_7.out.cells
      obtain ⟨uc0, uc1, ul⟩ := HVu_7.out.cells
      obtain ⟨vc0, vc1, vl⟩ := HVv_7.out.cells
      go_wp2_with fail
      refine (sameQua_any (R).main (R).areas Au Av (R).main.length cu cv Bu Bv (R).areas.length du dv w7 w.heap.size w7.heap.size w.heap.size w7.heap.size (Nat.le_refl _) (Nat.le_refl _) HVu_7.out.2.1 HVv_7.out.2.1 HVu_7.out.2.2 HVv_7.out.2.2).mono ?_
      rintro e w8 ⟨rfl, hb8⟩
      clear yc0 yc1 yl uc0 uc1 ul vc0 vc1 vl
      have HB8 := Lib.hid (bel_tr HB7.out (Nat.le_refl _) hb8)
      have HVy_8 := Lib.hid (HVy_7.out.fresh hb8)
      have HVu_8 := Lib.hid (HVu_7.out.fresh hb8)
      have HVv_8 := Lib.hid (HVv_7.out.fresh hb8)
      clear hb8
      obtain ⟨yc0, yc1, yl⟩ := HVy_8.out.cells
      obtain ⟨uc0, uc1, ul⟩ := HVu_8.out.cells
      obtain ⟨vc0, vc1, vl⟩ := HVv_8.out.cells
      go_wp2_with fail
      go_ret
      exact ⟨rfl, HB8.out⟩
    · have HPT := Lib.hid (quaPro_true (q := Q) (t := t) HBB.out.symm)
      have HV : Hid (quaB Q = true) := Lib.hid (proIn_and HPT.out.1).1
      have HA := Lib.hid ((quaB_iff _).1 HV.out).1.2
      have HVR : Hid (quaB R = true) := Lib.hid (by rw [HR.out]; exact quaPro_valid HBB.out.symm)
      have HAR := Lib.hid ((quaB_iff _).1 HVR.out).1.2
      have HSR := Lib.hid ((quaB_iff _).1 HVR.out).2.1
      have HRM : Hid (R.main = (allP Q.main (areaL Q.areas t)).1) := Lib.hid (by rw [HR.out]; show (quaPro Q t).main = _; rw [HPT.out.2.2.2])
      have HGO : Hid (areaL R.areas t = [] ∧ R.areas.length + 1 = Q.areas.length) := Lib.hid (by rw [HR.out]; exact quaPro_gone HBB.out.symm)
      have HSO : Hid (storeB (areaL Q.areas t) = true) := Lib.hid (areaL_store HV.out t)
      have HOO : Hid (∀ o ∈ areaL Q.areas t, objB o = true) := Lib.hid ((storeB_iff _).1 HSO.out).1
      have HQO : Hid (∀ o ∈ Q.main, objB o = true) := Lib.hid ((storeB_iff _).1 ((quaB_iff _).1 HV.out).2.1).1
      have HOM : Hid (∀ o ∈ areaL Q.areas t, o ∈ R.main) := Lib.hid fun o h => by rw [HRM.out]; exact (allP_mem HPT.out.2.2.1 o).2 (.inr h)
      have HQM : Hid (∀ o ∈ Q.main, o ∈ R.main) := Lib.hid fun o h => by rw [HRM.out]; exact (allP_mem HPT.out.2.2.1 o).2 (.inl h)
      go_wp2_with fail
      refine (sameQua_any (R).main (R).areas Au Av (R).main.length cu cv Bu Bv (R).areas.length du dv w6 w.heap.size w6.heap.size w.heap.size w6.heap.size (Nat.le_refl _) (Nat.le_refl _) HVu_6.out.2.1 HVv_6.out.2.1 HVu_6.out.2.2 HVv_6.out.2.2).mono ?_
      rintro e w7 ⟨rfl, hb7⟩
      clear yc0 yc1 yl uc0 uc1 ul vc0 vc1 vl
      have HB7 := Lib.hid (bel_tr HB6.out (Nat.le_refl _) hb7)
      have HVy_7 := Lib.hid (HVy_6.out.fresh hb7)
      have HVu_7 := Lib.hid (HVu_6.out.fresh hb7)
      have HVv_7 := Lib.hid (HVv_6.out.fresh hb7)
      clear hb7
      obtain ⟨yc0, yc1, yl⟩ := HVy_7.out.cells
      obtain ⟨uc0, uc1, ul⟩ := HVu_7.out.cells
      obtain ⟨vc0, vc1, vl⟩ := HVv_7.out.cells
      go_wp2_with fail
      refine (areaOf_any (Q).areas t A (Q).main.length c B (Q).areas.length d w7 w.heap.size w7.heap.size (Nat.le_refl _) HA.out HVy_7.out.2.2).mono ?_
      rintro e w8 ⟨Aa, na, ca, hra, hb8, rfl⟩
      have HNa := Lib.hid hra.len.1
      have HLa_8 : Hid (D.rd w8 w.heap.size w8.heap.size (dObjects (areaL (Q).areas t)) (.slice Aa na ca)) := Lib.hid (hra.more (Nat.le_refl _) hb8.size)
      clear hra
      clear yc0 yc1 yl uc0 uc1 ul vc0 vc1 vl
      have HB8 := Lib.hid (bel_tr HB7.out (Nat.le_refl _) hb8)
      have HVy_8 := Lib.hid (HVy_7.out.fresh hb8)
      have HVu_8 := Lib.hid (HVu_7.out.fresh hb8)
      have HVv_8 := Lib.hid (HVv_7.out.fresh hb8)
      clear hb8
      obtain ⟨yc0, yc1, yl⟩ := HVy_8.out.cells
      obtain ⟨uc0, uc1, ul⟩ := HVu_8.out.cells
      obtain ⟨vc0, vc1, vl⟩ := HVv_8.out.cells
      have hna16 : na ≤ 16 := by rw [HNa.out]; exact ((storeB_iff _).1 HSO.out).2.2
      go_wp2_with fail
      have HK0 : Hid (Below w8.heap.size w8 w8) := Lib.hid (Below.refl _ _)
      clear yc0 yc1 yl uc0 uc1 ul vc0 vc1 vl
      go_loopw [10] (fun i wr => ∃ k : Nat, k ≤ na ∧ i = .int .i64 k ∧ Hid (Below w8.heap.size w8 wr)) (fun i _ => na - (intOf i).toNat)
      case atStart => exact ⟨0, Nat.zero_le _, rfl, HK0⟩
      case round =>
        obtain ⟨k, hk, rfl, HK9⟩ := hrel
        obtain ⟨w9, hw9⟩ : ∃ z, z = wr := ⟨_, rfl⟩
        subst hw9
        have HB9 := Lib.hid (bel_tr HB8.out (Nat.le_refl _) HK9.out)
        have HVy_9 := Lib.hid (HVy_8.out.fresh HK9.out)
        have HVu_9 := Lib.hid (HVu_8.out.fresh HK9.out)
        have HVv_9 := Lib.hid (HVv_8.out.fresh HK9.out)
        have HLa_9 := Lib.hid (HLa_8.out.fresh HK9.out)
        have hws9 := HB9.out.size
        obtain ⟨yc0, yc1, yl⟩ := HVy_9.out.cells
        obtain ⟨uc0, uc1, ul⟩ := HVu_9.out.cells
        obtain ⟨vc0, vc1, vl⟩ := HVv_9.out.cells
        by_cases hlt : k < na
        · obtain ⟨b, o, hl, A1, n1, c1, rfl, _, hbh, hc0, hc1, hc2, ⟨hn1, hm1, hr1⟩, -⟩ := rd_Object HLa_9.out hlt
          have hOV := HOO.out _ (List.getElem_mem hl)
          have hME := HOM.out _ (List.getElem_mem hl)
          have HR1_9 := Lib.hid hr1
          obtain ⟨o1, ho1⟩ : ∃ o1, o1 = (areaL Q.areas t)[k] := ⟨_, rfl⟩
          rw [← ho1] at hc0 hc2 hOV hME
          rw [← ho1] at HR1_9
          obtain ⟨kind, links, text⟩ := o1
          dsimp only at hc0 hc2 HR1_9
          have HOV := Lib.hid hOV
          have HME := Lib.hid hME
          obtain rfl : n1 = links.length := HR1_9.out.len.1
          have hl4 : links.length ≤ 4 := (objB_and hOV).2.1
          have lb : b < w9.heap.size := hbh
          clear hr1 ho1 hl hn1 hm1 hOV hME
          have HMR := Lib.hid HVu_9.out.2.1
          have HRd := Lib.hid HR1_9.out.drew
          have hh0 : w.heap.size ≤ w9.heap.size := HB9.out.size
          go_upto_region 12 with (fail)
          go_cut [11, 12] (fun v f wx => ∃ (x : Nat) (Ax : Option Addr) (cx : Nat), v = .pointer (some ⟨x, 0, none⟩) ∧ f = .bool true ∧ Hid (XB w w9 wx x kind links text Ax cx))
          case first =>
            have tok1 : True := trivial
            go_region_held_law (fun w' => w'.cell? ⟨u, 0, none⟩ = some (.slice Au R.main.length cu) ∧ w'.cell? ⟨b, o + k * 3, none⟩ = some (.int .i64 kind) ∧ w'.cell? ⟨b, o + k * 3 + 1, none⟩ = some (.slice A1 links.length c1) ∧ w'.cell? ⟨b, o + k * 3 + 2, none⟩ = some (.string text)) (go_keep)
              (first
                | (have _t := tok1; go_at_call 38; refine (implId_any kind links text A1 links.length c1 w9.drew w.heap.size w9.heap.size (by first | exact Nat.le_refl _ | (simp; done) | (simp; omega) | omega) HOV.out HRd.out).mono ?_; rintro e wa ⟨rfl, hba'⟩; have hba := below_of_drew hba'; have HBA := Lib.hid hba; have hsa : w9.heap.size ≤ wa.heap.size := hba.size; have aq0 : wa.cell? ⟨u, 0, none⟩ = some (.slice Au R.main.length cu) := (hba.cell ul).trans uc0; have aq1 : wa.cell? ⟨b, o + k * 3, none⟩ = some (.int .i64 kind) := (hba.cell lb).trans hc0; have aq2 : wa.cell? ⟨b, o + k * 3 + 1, none⟩ = some (.slice A1 links.length c1) := (hba.cell lb).trans hc1; have aq3 : wa.cell? ⟨b, o + k * 3 + 2, none⟩ = some (.string text) := (hba.cell lb).trans hc2; have aul : u < wa.heap.size := Nat.lt_of_lt_of_le ul hba.size; have alb : b < wa.heap.size := Nat.lt_of_lt_of_le lb hba.size; have ayl : y < wa.heap.size := Nat.lt_of_lt_of_le yl hba.size; have tok2 : True := trivial; clear tok1 hba' hba)
                | (have _t := tok1; go_at_call 38; refine (implId_any kind links text A1 links.length c1 (w9.drew.alloc (.cells #[.int .i64 0, .slice none 0 0, .string ⟨#[]⟩] 58)) w.heap.size w9.heap.size (by first | exact Nat.le_refl _ | (simp; done) | (simp; omega) | omega) HOV.out (HRd.out.alloc (Nat.le_refl _) (.cells #[.int .i64 0, .slice none 0 0, .string ⟨#[]⟩] 58))).mono ?_; rintro e wa ⟨rfl, hba'⟩; have hba : Below w9.heap.size w9 wa := ((((Below.refl _ _).drew).alloc (Nat.le_refl _) (.cells #[.int .i64 0, .slice none 0 0, .string ⟨#[]⟩] 58)).trans (hba'.mono (by first | exact Nat.le_refl _ | (simp; done) | (simp; omega) | omega))); have hxb : wa.heap[w9.heap.size]? = some (.cells #[.int .i64 0, .slice none 0 0, .string ⟨#[]⟩] 58 (0, 0)) := (hba'.block (w9.heap.size) (by simp)).trans (heap_alloc_new w9.drew _); have HXB := Lib.hid hxb; clear hxb; have HBA := Lib.hid hba; have hsa : w9.heap.size ≤ wa.heap.size := hba.size; have aq0 : wa.cell? ⟨u, 0, none⟩ = some (.slice Au R.main.length cu) := (hba.cell ul).trans uc0; have aq1 : wa.cell? ⟨b, o + k * 3, none⟩ = some (.int .i64 kind) := (hba.cell lb).trans hc0; have aq2 : wa.cell? ⟨b, o + k * 3 + 1, none⟩ = some (.slice A1 links.length c1) := (hba.cell lb).trans hc1; have aq3 : wa.cell? ⟨b, o + k * 3 + 2, none⟩ = some (.string text) := (hba.cell lb).trans hc2; have aul : u < wa.heap.size := Nat.lt_of_lt_of_le ul hba.size; have alb : b < wa.heap.size := Nat.lt_of_lt_of_le lb hba.size; have ayl : y < wa.heap.size := Nat.lt_of_lt_of_le yl hba.size; have tokB2 : True := trivial; clear tok1 hba' hba)
                | (have _t := tok2; go_at_call 37; have hmr := HMR.out.below HBA.out (Nat.le_refl _); refine (getO_any R.main ⟨kind, links, text⟩ Au R.main.length cu wa w.heap.size w9.heap.size (by first | exact Nat.le_refl _ | (simp; done) | (simp; omega) | omega) HSR.out HME.out hmr).mono ?_; rintro e wb ⟨Ax, cx, hrx, hbb', rfl⟩; dsimp only at hrx; have hbb : Below w9.heap.size w9 wb := HBA.out.trans (hbb'.mono hsa); have HXV := Lib.hid (XB.new (w0 := w) (kind := kind) (text := text) hbb (hrx.more (lo' := w.heap.size) (by omega) (Nat.le_refl _))); have bq0 : wb.cell? ⟨u, 0, none⟩ = some (.slice Au R.main.length cu) := (hbb.cell ul).trans uc0; have bq1 : wb.cell? ⟨b, o + k * 3, none⟩ = some (.int .i64 kind) := (hbb.cell lb).trans hc0; have bq2 : wb.cell? ⟨b, o + k * 3 + 1, none⟩ = some (.slice A1 links.length c1) := (hbb.cell lb).trans hc1; have bq3 : wb.cell? ⟨b, o + k * 3 + 2, none⟩ = some (.string text) := (hbb.cell lb).trans hc2; have bul : u < wb.heap.size := Nat.lt_of_lt_of_le ul hbb.size; have blb : b < wb.heap.size := Nat.lt_of_lt_of_le lb hbb.size; have byl : y < wb.heap.size := Nat.lt_of_lt_of_le yl hbb.size; clear tok2 hbb' hrx hmr)
                | (have _t := tok2; go_at_call 37; have hmr := HMR.out.below HBA.out (Nat.le_refl _); replace hmr := hmr.alloc hsa (.cells #[.int .i64 0, .slice none 0 0, .string ⟨#[]⟩] 58); refine (getO_any R.main ⟨kind, links, text⟩ Au R.main.length cu (wa.alloc (.cells #[.int .i64 0, .slice none 0 0, .string ⟨#[]⟩] 58)) w.heap.size w9.heap.size (by first | exact Nat.le_refl _ | (simp; done) | (simp; omega) | omega) HSR.out HME.out hmr).mono ?_; rintro e wb ⟨Ax, cx, hrx, hbb', rfl⟩; dsimp only at hrx; have hbb : Below w9.heap.size w9 wb := HBA.out.trans ((((Below.refl wa.heap.size wa).alloc (Nat.le_refl _) (.cells #[.int .i64 0, .slice none 0 0, .string ⟨#[]⟩] 58)).trans (hbb'.mono (by first | exact Nat.le_refl _ | (simp; done) | (simp; omega) | omega))).mono hsa); have hxb : wb.heap[wa.heap.size]? = some (.cells #[.int .i64 0, .slice none 0 0, .string ⟨#[]⟩] 58 (0, 0)) := (hbb'.block (wa.heap.size) (by simp)).trans (heap_alloc_new wa _); have HXB := Lib.hid hxb; clear hxb; have hrx2 := hrx.more (lo' := wa.heap.size + 1) (by first | (have := hlt_of HXB.out; omega) | (simp; done)) (Nat.le_refl _); have hkx : w9.heap.size ≤ wa.heap.size := (by omega); have HXV := Lib.hid (XB.old (w0 := w) (kind := kind) (text := text) hbb HXB.out hkx hrx2 (by omega)); have v0 := cell_of_row _ _ 0 _ _ _ HXB.out; have v1 := cell_of_row _ _ 1 _ _ _ HXB.out; have v2 := cell_of_row _ _ 2 _ _ _ HXB.out; have vf0 := frozen_of_row _ _ 0 _ _ HXB.out; have vf1 := frozen_of_row _ _ 1 _ _ HXB.out; have vf2 := frozen_of_row _ _ 2 _ _ HXB.out; have vl := hlt_of HXB.out; have n1 : ¬ (wa.heap.size = u) := (by omega); have n2 : ¬ (u = wa.heap.size) := (by omega); have n3 : ¬ (wa.heap.size = b) := (by omega); have n4 : ¬ (b = wa.heap.size) := (by omega); have n5 : ¬ (wa.heap.size = y) := (by omega); have n6 : ¬ (y = wa.heap.size) := (by omega); clear hrx2; have bq0 : wb.cell? ⟨u, 0, none⟩ = some (.slice Au R.main.length cu) := (hbb.cell ul).trans uc0; have bq1 : wb.cell? ⟨b, o + k * 3, none⟩ = some (.int .i64 kind) := (hbb.cell lb).trans hc0; have bq2 : wb.cell? ⟨b, o + k * 3 + 1, none⟩ = some (.slice A1 links.length c1) := (hbb.cell lb).trans hc1; have bq3 : wb.cell? ⟨b, o + k * 3 + 2, none⟩ = some (.string text) := (hbb.cell lb).trans hc2; have bul : u < wb.heap.size := Nat.lt_of_lt_of_le ul hbb.size; have blb : b < wb.heap.size := Nat.lt_of_lt_of_le lb hbb.size; have byl : y < wb.heap.size := Nat.lt_of_lt_of_le yl hbb.size; clear tok2 hbb' hrx hmr)
                | (have _t := tokB2; go_at_call 37; have hmr := HMR.out.below HBA.out (Nat.le_refl _); refine (getO_any R.main ⟨kind, links, text⟩ Au R.main.length cu wa w.heap.size w9.heap.size (by first | exact Nat.le_refl _ | (simp; done) | (simp; omega) | omega) HSR.out HME.out hmr).mono ?_; rintro e wb ⟨Ax, cx, hrx, hbb', rfl⟩; dsimp only at hrx; have hOLD := Lib.hid (show w9.heap.size + 1 ≤ wa.heap.size from hlt_of HXB.out); have hbb : Below w9.heap.size w9 wb := HBA.out.trans (hbb'.mono hsa); have HXB := Lib.hid ((hbb'.block (w9.heap.size) (hlt_of HXB.out)).trans HXB.out); have hrx2 := hrx.more (lo' := w9.heap.size + 1) (hOLD.out) (Nat.le_refl _); have hkx : w9.heap.size ≤ w9.heap.size := (by omega); have HXV := Lib.hid (XB.old (w0 := w) (kind := kind) (text := text) hbb HXB.out hkx hrx2 (by omega)); have v0 := cell_of_row _ _ 0 _ _ _ HXB.out; have v1 := cell_of_row _ _ 1 _ _ _ HXB.out; have v2 := cell_of_row _ _ 2 _ _ _ HXB.out; have vf0 := frozen_of_row _ _ 0 _ _ HXB.out; have vf1 := frozen_of_row _ _ 1 _ _ HXB.out; have vf2 := frozen_of_row _ _ 2 _ _ HXB.out; have vl := hlt_of HXB.out; have n1 : ¬ (w9.heap.size = u) := (by omega); have n2 : ¬ (u = w9.heap.size) := (by omega); have n3 : ¬ (w9.heap.size = b) := (by omega); have n4 : ¬ (b = w9.heap.size) := (by omega); have n5 : ¬ (w9.heap.size = y) := (by omega); have n6 : ¬ (y = w9.heap.size) := (by omega); clear hrx2; have bq0 : wb.cell? ⟨u, 0, none⟩ = some (.slice Au R.main.length cu) := (hbb.cell ul).trans uc0; have bq1 : wb.cell? ⟨b, o + k * 3, none⟩ = some (.int .i64 kind) := (hbb.cell lb).trans hc0; have bq2 : wb.cell? ⟨b, o + k * 3 + 1, none⟩ = some (.slice A1 links.length c1) := (hbb.cell lb).trans hc1; have bq3 : wb.cell? ⟨b, o + k * 3 + 2, none⟩ = some (.string text) := (hbb.cell lb).trans hc2; have bul : u < wb.heap.size := Nat.lt_of_lt_of_le ul hbb.size; have blb : b < wb.heap.size := Nat.lt_of_lt_of_le lb hbb.size; have byl : y < wb.heap.size := Nat.lt_of_lt_of_le yl hbb.size; clear tokB2 hbb' hrx hmr))
            all_goals
              go_wp2_with fail
              go_meet
              exact ⟨_, _, _, rfl, rfl, HXV⟩
          case rest =>
            obtain ⟨x, Ax, cx, rfl, rfl, HXV⟩ := hcut
            obtain ⟨w10, hw10⟩ : ∃ z, z = wc := ⟨_, rfl⟩
            subst hw10
            have HCB := Lib.hid HXV.out.2.2
            replace hc0 := (HCB.out.cell lb).trans hc0
            replace hc1 := (HCB.out.cell lb).trans hc1
            replace hc2 := (HCB.out.cell lb).trans hc2
            replace lb := Nat.lt_of_lt_of_le lb HCB.out.size
            have HR1_10 := Lib.hid (HR1_9.out.fresh HCB.out)
            clear yc0 yc1 yl uc0 uc1 ul vc0 vc1 vl
            have HB10 := Lib.hid (bel_tr HB9.out (Nat.le_refl _) HCB.out)
            have HVy_10 := Lib.hid (HVy_9.out.fresh HCB.out)
            have HVu_10 := Lib.hid (HVu_9.out.fresh HCB.out)
            have HVv_10 := Lib.hid (HVv_9.out.fresh HCB.out)
            have HK10 := Lib.hid (bel_tr HK9.out (Nat.le_refl _) HCB.out)
            have HLa_10 := Lib.hid (HLa_9.out.fresh HCB.out)
            obtain ⟨yc0, yc1, yl⟩ := HVy_10.out.cells
            obtain ⟨uc0, uc1, ul⟩ := HVu_10.out.cells
            obtain ⟨vc0, vc1, vl⟩ := HVv_10.out.cells
            obtain ⟨x0, x1, x2, -, xl⟩ := box_cells HXV.out.1
            go_upto_region 13 with (fail)
            have tok1 : True := trivial
            have HI1 := Lib.hid HXV.out.2.1.drew.ints
            have HI2 := Lib.hid HR1_10.out.drew.ints
            go_region_held_law (fun w' => w'.cell? ⟨x, 0, none⟩ = some (.int .i64 kind) ∧ w'.cell? ⟨x, 1, none⟩ = some (.slice Ax links.length cx) ∧ w'.cell? ⟨x, 2, none⟩ = some (.string text) ∧ w'.cell? ⟨b, o + k * 3, none⟩ = some (.int .i64 kind) ∧ w'.cell? ⟨b, o + k * 3 + 1, none⟩ = some (.slice A1 links.length c1) ∧ w'.cell? ⟨b, o + k * 3 + 2, none⟩ = some (.string text)) (go_keep)
              ((go_at_call 39; have _t := tok1; refine (sameObject_any kind links text Ax A1 links.length cx c1 w10.drew w.heap.size w10.heap.size w.heap.size w10.heap.size (Nat.le_refl _) (Nat.le_refl _) (by omega) HI1.out HI2.out).mono ?_; rintro e w11 ⟨rfl, hbd⟩; have hb11 := below_of_drew hbd; replace x0 := (hb11.cell xl).trans x0; replace x1 := (hb11.cell xl).trans x1; replace x2 := (hb11.cell xl).trans x2; replace hc0 := (hb11.cell lb).trans hc0; replace hc1 := (hb11.cell lb).trans hc1; replace hc2 := (hb11.cell lb).trans hc2; have HK11 := Lib.hid (bel_tr HK10.out (Nat.le_refl _) hb11); clear tok1 hbd hb11))
            all_goals
              go_wp2_with fail
              go_roundw
              case rel => exact ⟨k + 1, by omega, by go_num, HK11⟩
              case measure => simp [intOf]; omega
        · have hkq : k = na := by omega
          subst hkq
          go_wp2_with fail
          have HK0 : Hid (Below w9.heap.size w9 w9) := Lib.hid (Below.refl _ _)
          clear yc0 yc1 yl uc0 uc1 ul vc0 vc1 vl
          go_loopw [13] (fun i wr => ∃ k : Nat, k ≤ Q.main.length ∧ i = .int .i64 k ∧ Hid (Below w9.heap.size w9 wr)) (fun i _ => Q.main.length - (intOf i).toNat)
          case atStart => exact ⟨0, Nat.zero_le _, rfl, HK0⟩
          case round =>
            obtain ⟨k, hk, rfl, HK10⟩ := hrel
            obtain ⟨w10, hw10⟩ : ∃ z, z = wr := ⟨_, rfl⟩
            subst hw10
            have HB10 := Lib.hid (bel_tr HB9.out (Nat.le_refl _) HK10.out)
            have HVy_10 := Lib.hid (HVy_9.out.fresh HK10.out)
            have HVu_10 := Lib.hid (HVu_9.out.fresh HK10.out)
            have HVv_10 := Lib.hid (HVv_9.out.fresh HK10.out)
            have HLa_10 := Lib.hid (HLa_9.out.fresh HK10.out)
            have hws10 := HB10.out.size
            obtain ⟨yc0, yc1, yl⟩ := HVy_10.out.cells
            obtain ⟨uc0, uc1, ul⟩ := HVu_10.out.cells
            obtain ⟨vc0, vc1, vl⟩ := HVv_10.out.cells
            by_cases hlt : k < Q.main.length
            · obtain ⟨b, o, hl, A1, n1, c1, rfl, _, hbh, hc0, hc1, hc2, ⟨hn1, hm1, hr1⟩, -⟩ := rd_Object HVy_10.out.2.1 hlt
              have hOV := HQO.out _ (List.getElem_mem hl)
              have hME := HQM.out _ (List.getElem_mem hl)
              have HR1_10 := Lib.hid hr1
              obtain ⟨o1, ho1⟩ : ∃ o1, o1 = (Q.main)[k] := ⟨_, rfl⟩
              rw [← ho1] at hc0 hc2 hOV hME
              rw [← ho1] at HR1_10
              obtain ⟨kind, links, text⟩ := o1
              dsimp only at hc0 hc2 HR1_10
              have HOV := Lib.hid hOV
              have HME := Lib.hid hME
              obtain rfl : n1 = links.length := HR1_10.out.len.1
              have hl4 : links.length ≤ 4 := (objB_and hOV).2.1
              have lb : b < w10.heap.size := hbh
              clear hr1 ho1 hl hn1 hm1 hOV hME
              have HMR := Lib.hid HVu_10.out.2.1
              have HRd := Lib.hid HR1_10.out.drew
              have hh0 : w.heap.size ≤ w10.heap.size := HB10.out.size
              go_upto_region 18 with (fail)
              go_cut [14, 15] (fun v f wx => ∃ (x : Nat) (Ax : Option Addr) (cx : Nat), v = .pointer (some ⟨x, 0, none⟩) ∧ f = .bool true ∧ Hid (XB w w10 wx x kind links text Ax cx))
              case first =>
                have tok1 : True := trivial
                go_region_held_law (fun w' => w'.cell? ⟨u, 0, none⟩ = some (.slice Au R.main.length cu) ∧ w'.cell? ⟨b, o + k * 3, none⟩ = some (.int .i64 kind) ∧ w'.cell? ⟨b, o + k * 3 + 1, none⟩ = some (.slice A1 links.length c1) ∧ w'.cell? ⟨b, o + k * 3 + 2, none⟩ = some (.string text) ∧ w'.cell? ⟨y, 0, none⟩ = some (.slice (some ⟨b, o, none⟩) Q.main.length c)) (go_keep)
                  (first
                    | (have _t := tok1; go_at_call 38; refine (implId_any kind links text A1 links.length c1 w10.drew w.heap.size w10.heap.size (by first | exact Nat.le_refl _ | (simp; done) | (simp; omega) | omega) HOV.out HRd.out).mono ?_; rintro e wa ⟨rfl, hba'⟩; have hba := below_of_drew hba'; have HBA := Lib.hid hba; have hsa : w10.heap.size ≤ wa.heap.size := hba.size; have aq0 : wa.cell? ⟨u, 0, none⟩ = some (.slice Au R.main.length cu) := (hba.cell ul).trans uc0; have aq1 : wa.cell? ⟨b, o + k * 3, none⟩ = some (.int .i64 kind) := (hba.cell lb).trans hc0; have aq2 : wa.cell? ⟨b, o + k * 3 + 1, none⟩ = some (.slice A1 links.length c1) := (hba.cell lb).trans hc1; have aq3 : wa.cell? ⟨b, o + k * 3 + 2, none⟩ = some (.string text) := (hba.cell lb).trans hc2; have aq4 : wa.cell? ⟨y, 0, none⟩ = some (.slice (some ⟨b, o, none⟩) Q.main.length c) := (hba.cell yl).trans yc0; have aul : u < wa.heap.size := Nat.lt_of_lt_of_le ul hba.size; have alb : b < wa.heap.size := Nat.lt_of_lt_of_le lb hba.size; have ayl : y < wa.heap.size := Nat.lt_of_lt_of_le yl hba.size; have tok2 : True := trivial; clear tok1 hba' hba)
                    | (have _t := tok1; go_at_call 38; refine (implId_any kind links text A1 links.length c1 (w10.drew.alloc (.cells #[.int .i64 0, .slice none 0 0, .string ⟨#[]⟩] 58)) w.heap.size w10.heap.size (by first | exact Nat.le_refl _ | (simp; done) | (simp; omega) | omega) HOV.out (HRd.out.alloc (Nat.le_refl _) (.cells #[.int .i64 0, .slice none 0 0, .string ⟨#[]⟩] 58))).mono ?_; rintro e wa ⟨rfl, hba'⟩; have hba : Below w10.heap.size w10 wa := ((((Below.refl _ _).drew).alloc (Nat.le_refl _) (.cells #[.int .i64 0, .slice none 0 0, .string ⟨#[]⟩] 58)).trans (hba'.mono (by first | exact Nat.le_refl _ | (simp; done) | (simp; omega) | omega))); have hxb : wa.heap[w10.heap.size]? = some (.cells #[.int .i64 0, .slice none 0 0, .string ⟨#[]⟩] 58 (0, 0)) := (hba'.block (w10.heap.size) (by simp)).trans (heap_alloc_new w10.drew _); have HXB := Lib.hid hxb; clear hxb; have HBA := Lib.hid hba; have hsa : w10.heap.size ≤ wa.heap.size := hba.size; have aq0 : wa.cell? ⟨u, 0, none⟩ = some (.slice Au R.main.length cu) := (hba.cell ul).trans uc0; have aq1 : wa.cell? ⟨b, o + k * 3, none⟩ = some (.int .i64 kind) := (hba.cell lb).trans hc0; have aq2 : wa.cell? ⟨b, o + k * 3 + 1, none⟩ = some (.slice A1 links.length c1) := (hba.cell lb).trans hc1; have aq3 : wa.cell? ⟨b, o + k * 3 + 2, none⟩ = some (.string text) := (hba.cell lb).trans hc2; have aq4 : wa.cell? ⟨y, 0, none⟩ = some (.slice (some ⟨b, o, none⟩) Q.main.length c) := (hba.cell yl).trans yc0; have aul : u < wa.heap.size := Nat.lt_of_lt_of_le ul hba.size; have alb : b < wa.heap.size := Nat.lt_of_lt_of_le lb hba.size; have ayl : y < wa.heap.size := Nat.lt_of_lt_of_le yl hba.size; have tokB2 : True := trivial; clear tok1 hba' hba)
                    | (have _t := tok2; go_at_call 37; have hmr := HMR.out.below HBA.out (Nat.le_refl _); refine (getO_any R.main ⟨kind, links, text⟩ Au R.main.length cu wa w.heap.size w10.heap.size (by first | exact Nat.le_refl _ | (simp; done) | (simp; omega) | omega) HSR.out HME.out hmr).mono ?_; rintro e wb ⟨Ax, cx, hrx, hbb', rfl⟩; dsimp only at hrx; have hbb : Below w10.heap.size w10 wb := HBA.out.trans (hbb'.mono hsa); have HXV := Lib.hid (XB.new (w0 := w) (kind := kind) (text := text) hbb (hrx.more (lo' := w.heap.size) (by omega) (Nat.le_refl _))); have bq0 : wb.cell? ⟨u, 0, none⟩ = some (.slice Au R.main.length cu) := (hbb.cell ul).trans uc0; have bq1 : wb.cell? ⟨b, o + k * 3, none⟩ = some (.int .i64 kind) := (hbb.cell lb).trans hc0; have bq2 : wb.cell? ⟨b, o + k * 3 + 1, none⟩ = some (.slice A1 links.length c1) := (hbb.cell lb).trans hc1; have bq3 : wb.cell? ⟨b, o + k * 3 + 2, none⟩ = some (.string text) := (hbb.cell lb).trans hc2; have bq4 : wb.cell? ⟨y, 0, none⟩ = some (.slice (some ⟨b, o, none⟩) Q.main.length c) := (hbb.cell yl).trans yc0; have bul : u < wb.heap.size := Nat.lt_of_lt_of_le ul hbb.size; have blb : b < wb.heap.size := Nat.lt_of_lt_of_le lb hbb.size; have byl : y < wb.heap.size := Nat.lt_of_lt_of_le yl hbb.size; clear tok2 hbb' hrx hmr)
                    | (have _t := tok2; go_at_call 37; have hmr := HMR.out.below HBA.out (Nat.le_refl _); replace hmr := hmr.alloc hsa (.cells #[.int .i64 0, .slice none 0 0, .string ⟨#[]⟩] 58); refine (getO_any R.main ⟨kind, links, text⟩ Au R.main.length cu (wa.alloc (.cells #[.int .i64 0, .slice none 0 0, .string ⟨#[]⟩] 58)) w.heap.size w10.heap.size (by first | exact Nat.le_refl _ | (simp; done) | (simp; omega) | omega) HSR.out HME.out hmr).mono ?_; rintro e wb ⟨Ax, cx, hrx, hbb', rfl⟩; dsimp only at hrx; have hbb : Below w10.heap.size w10 wb := HBA.out.trans ((((Below.refl wa.heap.size wa).alloc (Nat.le_refl _) (.cells #[.int .i64 0, .slice none 0 0, .string ⟨#[]⟩] 58)).trans (hbb'.mono (by first | exact Nat.le_refl _ | (simp; done) | (simp; omega) | omega))).mono hsa); have hxb : wb.heap[wa.heap.size]? = some (.cells #[.int .i64 0, .slice none 0 0, .string ⟨#[]⟩] 58 (0, 0)) := (hbb'.block (wa.heap.size) (by simp)).trans (heap_alloc_new wa _); have HXB := Lib.hid hxb; clear hxb; have hrx2 := hrx.more (lo' := wa.heap.size + 1) (by first | (have := hlt_of HXB.out; omega) | (simp; done)) (Nat.le_refl _); have hkx : w10.heap.size ≤ wa.heap.size := (by omega); have HXV := Lib.hid (XB.old (w0 := w) (kind := kind) (text := text) hbb HXB.out hkx hrx2 (by omega)); have v0 := cell_of_row _ _ 0 _ _ _ HXB.out; have v1 := cell_of_row _ _ 1 _ _ _ HXB.out; have v2 := cell_of_row _ _ 2 _ _ _ HXB.out; have vf0 := frozen_of_row _ _ 0 _ _ HXB.out; have vf1 := frozen_of_row _ _ 1 _ _ HXB.out; have vf2 := frozen_of_row _ _ 2 _ _ HXB.out; have vl := hlt_of HXB.out; have n1 : ¬ (wa.heap.size = u) := (by omega); have n2 : ¬ (u = wa.heap.size) := (by omega); have n3 : ¬ (wa.heap.size = b) := (by omega); have n4 : ¬ (b = wa.heap.size) := (by omega); have n5 : ¬ (wa.heap.size = y) := (by omega); have n6 : ¬ (y = wa.heap.size) := (by omega); clear hrx2; have bq0 : wb.cell? ⟨u, 0, none⟩ = some (.slice Au R.main.length cu) := (hbb.cell ul).trans uc0; have bq1 : wb.cell? ⟨b, o + k * 3, none⟩ = some (.int .i64 kind) := (hbb.cell lb).trans hc0; have bq2 : wb.cell? ⟨b, o + k * 3 + 1, none⟩ = some (.slice A1 links.length c1) := (hbb.cell lb).trans hc1; have bq3 : wb.cell? ⟨b, o + k * 3 + 2, none⟩ = some (.string text) := (hbb.cell lb).trans hc2; have bq4 : wb.cell? ⟨y, 0, none⟩ = some (.slice (some ⟨b, o, none⟩) Q.main.length c) := (hbb.cell yl).trans yc0; have bul : u < wb.heap.size := Nat.lt_of_lt_of_le ul hbb.size; have blb : b < wb.heap.size := Nat.lt_of_lt_of_le lb hbb.size; have byl : y < wb.heap.size := Nat.lt_of_lt_of_le yl hbb.size; clear tok2 hbb' hrx hmr)
                    | (have _t := tokB2; go_at_call 37; have hmr := HMR.out.below HBA.out (Nat.le_refl _); refine (getO_any R.main ⟨kind, links, text⟩ Au R.main.length cu wa w.heap.size w10.heap.size (by first | exact Nat.le_refl _ | (simp; done) | (simp; omega) | omega) HSR.out HME.out hmr).mono ?_; rintro e wb ⟨Ax, cx, hrx, hbb', rfl⟩; dsimp only at hrx; have hOLD := Lib.hid (show w10.heap.size + 1 ≤ wa.heap.size from hlt_of HXB.out); have hbb : Below w10.heap.size w10 wb := HBA.out.trans (hbb'.mono hsa); have HXB := Lib.hid ((hbb'.block (w10.heap.size) (hlt_of HXB.out)).trans HXB.out); have hrx2 := hrx.more (lo' := w10.heap.size + 1) (hOLD.out) (Nat.le_refl _); have hkx : w10.heap.size ≤ w10.heap.size := (by omega); have HXV := Lib.hid (XB.old (w0 := w) (kind := kind) (text := text) hbb HXB.out hkx hrx2 (by omega)); have v0 := cell_of_row _ _ 0 _ _ _ HXB.out; have v1 := cell_of_row _ _ 1 _ _ _ HXB.out; have v2 := cell_of_row _ _ 2 _ _ _ HXB.out; have vf0 := frozen_of_row _ _ 0 _ _ HXB.out; have vf1 := frozen_of_row _ _ 1 _ _ HXB.out; have vf2 := frozen_of_row _ _ 2 _ _ HXB.out; have vl := hlt_of HXB.out; have n1 : ¬ (w10.heap.size = u) := (by omega); have n2 : ¬ (u = w10.heap.size) := (by omega); have n3 : ¬ (w10.heap.size = b) := (by omega); have n4 : ¬ (b = w10.heap.size) := (by omega); have n5 : ¬ (w10.heap.size = y) := (by omega); have n6 : ¬ (y = w10.heap.size) := (by omega); clear hrx2; have bq0 : wb.cell? ⟨u, 0, none⟩ = some (.slice Au R.main.length cu) := (hbb.cell ul).trans uc0; have bq1 : wb.cell? ⟨b, o + k * 3, none⟩ = some (.int .i64 kind) := (hbb.cell lb).trans hc0; have bq2 : wb.cell? ⟨b, o + k * 3 + 1, none⟩ = some (.slice A1 links.length c1) := (hbb.cell lb).trans hc1; have bq3 : wb.cell? ⟨b, o + k * 3 + 2, none⟩ = some (.string text) := (hbb.cell lb).trans hc2; have bq4 : wb.cell? ⟨y, 0, none⟩ = some (.slice (some ⟨b, o, none⟩) Q.main.length c) := (hbb.cell yl).trans yc0; have bul : u < wb.heap.size := Nat.lt_of_lt_of_le ul hbb.size; have blb : b < wb.heap.size := Nat.lt_of_lt_of_le lb hbb.size; have byl : y < wb.heap.size := Nat.lt_of_lt_of_le yl hbb.size; clear tokB2 hbb' hrx hmr))
                all_goals
                  go_wp2_with fail
                  go_meet
                  exact ⟨_, _, _, rfl, rfl, HXV⟩
              case rest =>
                obtain ⟨x, Ax, cx, rfl, rfl, HXV⟩ := hcut
                obtain ⟨w11, hw11⟩ : ∃ z, z = wc := ⟨_, rfl⟩
                subst hw11
                have HCB := Lib.hid HXV.out.2.2
                replace hc0 := (HCB.out.cell lb).trans hc0
                replace hc1 := (HCB.out.cell lb).trans hc1
                replace hc2 := (HCB.out.cell lb).trans hc2
                replace lb := Nat.lt_of_lt_of_le lb HCB.out.size
                have HR1_11 := Lib.hid (HR1_10.out.fresh HCB.out)
                clear yc0 yc1 yl uc0 uc1 ul vc0 vc1 vl
                have HB11 := Lib.hid (bel_tr HB10.out (Nat.le_refl _) HCB.out)
                have HVy_11 := Lib.hid (HVy_10.out.fresh HCB.out)
                have HVu_11 := Lib.hid (HVu_10.out.fresh HCB.out)
                have HVv_11 := Lib.hid (HVv_10.out.fresh HCB.out)
                have HK11 := Lib.hid (bel_tr HK10.out (Nat.le_refl _) HCB.out)
                have HLa_11 := Lib.hid (HLa_10.out.fresh HCB.out)
                obtain ⟨yc0, yc1, yl⟩ := HVy_11.out.cells
                obtain ⟨uc0, uc1, ul⟩ := HVu_11.out.cells
                obtain ⟨vc0, vc1, vl⟩ := HVv_11.out.cells
                obtain ⟨x0, x1, x2, -, xl⟩ := box_cells HXV.out.1
                go_wp2_with fail
                go_roundw
                case rel => exact ⟨k + 1, by omega, by go_num, HK11⟩
                case measure => simp [intOf]; omega
            · have hkq : k = Q.main.length := by omega
              clear hkq
              go_wp2_with fail
              refine (areaOf_any R.areas t Au R.main.length cu Bu R.areas.length du w10 w.heap.size w10.heap.size (Nat.le_refl _) HAR.out HVu_10.out.2.2).mono ?_
              rintro e w11 ⟨Ae, ne, ce, hre, hb11, rfl⟩
              obtain rfl : ne = 0 := by rw [hre.len.1, HGO.out.1]; rfl
              clear hre
              clear yc0 yc1 yl uc0 uc1 ul vc0 vc1 vl
              have HB11 := Lib.hid (bel_tr HB10.out (Nat.le_refl _) hb11)
              have HVy_11 := Lib.hid (HVy_10.out.fresh hb11)
              have HVu_11 := Lib.hid (HVu_10.out.fresh hb11)
              have HVv_11 := Lib.hid (HVv_10.out.fresh hb11)
              have HLa_11 := Lib.hid (HLa_10.out.fresh hb11)
              clear hb11
              obtain ⟨yc0, yc1, yl⟩ := HVy_11.out.cells
              obtain ⟨uc0, uc1, ul⟩ := HVu_11.out.cells
              obtain ⟨vc0, vc1, vl⟩ := HVv_11.out.cells
              have hlen := HGO.out.2
              have hsubq : ((Q.areas.length : Int) - 1) = (R.areas.length : Int) := by omega
              have hsb : ((R.areas.length : Int) == (Q.areas.length : Int) - 1) = true := by rw [hsubq]; simp
              have h1q : (1 : Int) ≤ (Q.areas.length : Int) := by omega
              clear hsubq hlen
              go_wp2_with fail
              refine (implQuaValid_any R.main R.areas Au R.main.length cu Bu R.areas.length du w11 w.heap.size w11.heap.size (Nat.le_refl _) HVu_11.out.2.1 HVu_11.out.2.2).mono ?_
              rintro e w12 ⟨rfl, hb12⟩
              rw [show quaB ⟨R.main, R.areas⟩ = true from HVR.out]
              clear yc0 yc1 yl uc0 uc1 ul vc0 vc1 vl
              have HB12 := Lib.hid (bel_tr HB11.out (Nat.le_refl _) hb12)
              have HVy_12 := Lib.hid (HVy_11.out.fresh hb12)
              have HVu_12 := Lib.hid (HVu_11.out.fresh hb12)
              have HVv_12 := Lib.hid (HVv_11.out.fresh hb12)
              have HLa_12 := Lib.hid (HLa_11.out.fresh hb12)
              clear hb12
              go_wp2_with fail
              go_ret
              exact ⟨rfl, HB12.out⟩

set_option linter.unusedVariables false
set_option maxRecDepth 100000 in
theorem lifted (os : Os) (started : os.Started) (H : Type) (enc : TypeId × Value → H) :
    ReturnsInHanded {} Try.checked os 9 .any (Rows.fnPromoteSpec.pre6 enc Try.prog Try.f9 Rows.fnPromoteRow.domain false) (Rows.fnPromoteSpec.post enc Try.prog Try.f9 false true false false) := by
  refine returnsInHanded_of_change (C := Try.checked) Try.own started (by kernel_rfl) Try.func9
    (ChangeSpec.witness6 (enc := enc) (C := Try.checked) false ⟨#[], #[.slice none 0 0], []⟩ 8 (by kernel_rfl) (by kernel_rfl) (by kernel_rfl) (by kernel_rfl)) ?_
  intro W base args ds gs before hval0 hW hcnd _
  have hval : ∀ (j : Nat) t v, Try.f9.params[j]? = some t → args[j]? = some v → Value.okWide Try.prog W .any base t v := hval0
  have hW' := hW
  obtain ⟨p, q, hA0, hV, rfl, hfz, hnd⟩ := hW
  have hA : DataW.TrodAll enc Try.prog W 0 (fun _ => true) true Try.f9.params.toList args.toList ds p := hA0
  rw [Try.params9] at hA hval
  obtain ⟨v0, vs0, d0, ds0, p0, q0, hargs, rfl, rfl, h0, r0⟩ := trodAll_cons hA
  obtain ⟨rfl, rfl, rfl⟩ := trodAll_nil r0
  obtain rfl : args = #[v0] := by cases args; simp_all
  obtain ⟨rfl, rfl⟩ := trodVars_none hV
  have k0 := h0
  have lt0 : ∀ x ∈ p0, x.block < W.heap.size := by obtain ⟨m, hm⟩ := k0; exact DataW.trod_lt m _ _ _ hm
  obtain ⟨a0, len0, cap0, rfl⟩ := okWide_slice Try.underlying41 (hval 0 41 v0 rfl rfl)
  obtain ⟨z0, w0⟩ := open_row (k := .u8) Try.underlying41 Try.underlying5 (by kernel_rfl) h0 (fun _ => rfl)
  clear hA0 hval0
  refine (walk a0 len0 cap0 z0 W w0).mono fun e W' ⟨he, bel⟩ => ?_
  subst he
  exact ⟨_, rfl, _, _, _, [], _, [], hW', trodAll_mk1 (shut_bool Try.underlying4 _), (trodAll_cons_mk (Below.trod Try.laidOut (by kernel_rfl) (of_decide_eq_true (by kernel_rfl)) k0 bel lt0) trodAll_mk0), rfl, bel.frame _, fun h => by cases h⟩

theorem proved : Rows.FnPromoteSaid :=
  OpenClaim.holds_of_wide 9 Try.f9 rfl rfl rfl rfl rfl rfl rfl ⟨rfl, rfl, rfl, rfl, rfl⟩ rfl rfl rfl rfl rfl (by kernel_rfl) Try.func9 (by kernel_rfl)
    (of_decide_eq_true (by kernel_rfl)) (by unfold Func.isWrapper; first | (rw [if_pos (by decide +kernel)]; kernel_rfl) | (rw [if_neg (by decide +kernel)]; exact ⟨rfl, rfl⟩))
    (fun os started H enc _ => lifted os started H enc)

#print axioms proved
end Go.Proofs.Ytgpjcmplnigmcaa.fnPromote
