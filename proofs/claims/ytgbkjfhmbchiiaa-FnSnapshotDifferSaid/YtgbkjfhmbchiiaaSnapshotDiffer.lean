/-
  For every code: SnapshotDiffer of a drawn coordinator answers as the reference; the shards it names are those whose refs differ, in order; it is symmetric and empty from a place to itself. No condition.
-/
import Derived.Test.YtgbkjfhmbchiiaaM14
import Derived.Test.YtgbkjfhmbchiiaaM16
import Derived.Test.YtgbkjfhmbchiiaaSnapE
import Derived.Test.YtgbkjfhmbchiiaaM17
import Derived.Test.YtgbkjfhmbchiiaaDifLaw
import Derived.Test.YtgbkjfhmbchiiaaSnapX
import Derived.Test.YtgbkjfhmbchiiaaHasI
namespace Go.Proofs.Ytgbkjfhmbchiiaa.fnSnapshotDiffer
set_option linter.unusedVariables false
set_option linter.unusedSimpArgs false
open Go.ChangeShapes Go.WideShapes Go.ChangeAt Go.RowKit

theorem wf_small {n : Nat} {ts : List TxnD} {os : List Int} (h : DrB n ts os) : ∀ t ∈ ts, ∀ v ∈ t.votes, (Lit.int .i64 v).wf = true := fun t ht v hv => by
  have h1 := h.2.2 t ht v hv
  have h2 : v = -2 ∨ v = -1 ∨ v = 0 ∨ v = 1 := by omega
  rcases h2 with rfl | rfl | rfl | rfl <;> decide
theorem below_dn (w : World) : ∀ (k C : Nat), Below C w (w.drewN k)
  | 0, C => Below.refl _ _
  | k + 1, C => (below_dn w k C).trans (Below.refl _ _).drew

set_option maxRecDepth 100000 in
set_option maxHeartbeats 8000000 in
theorem walk (a0 : Option Addr) (len0 cap0 : Nat) (z0 : List Int) (w : World) (w0 : IsRow .u8 w a0 len0 cap0 z0) :
    Calls Try.prog 6 #[.slice a0 len0 cap0] w fun e w' => e = .returned (.bool true) ∧ Below w.heap.size w w' := by
  have hn := w0.bd
  have HI := Lib.hid w0
  clear w0
  by_cases hbig : 1048576 < len0
  · go_enter Try.func6, Try.ntmps6
    go_wp2
    go_ret
    exact ⟨rfl, Below.refl _ _⟩
  · have hs_len0 : len0 ≤ 1048576 := by omega
    clear hbig
    go_enter Try.func6, Try.ntmps6
    go_wp2_with fail
    refine (drawDiffer_any _ _ _ z0 _ HI.out).mono ?_
    rintro e w1 ⟨A0, c0, A1, c1, ts, os, a, b, hco, hdb, hb1, rfl⟩
    have HDB := Lib.hid hdb
    have HWF := Lib.hid (wf_small hdb)
    have ht12 : ts.length ≤ 1048576 := by have := hdb.1; omega
    have ho13 : os.length ≤ 1048576 := by have := hdb.2.1; omega
    obtain ⟨y, hy⟩ : ∃ y, y = w1.heap.size := ⟨_, rfl⟩
    obtain ⟨w2, hw2⟩ : ∃ w2, w2 = w1.alloc (.cells #[.slice A0 ts.length c0, .slice A1 os.length c1] 26) := ⟨_, rfl⟩
    have hb2 : Below w1.heap.size w1 w2 := by rw [hw2]; exact (Below.refl _ _).alloc (Nat.le_refl _) _
    have HB2 := Lib.hid (bel_tr hb1 (Nat.le_refl _) hb2)
    have HCO2 := Lib.hid (hco.fresh hb2)
    have HY2 : Hid (w2.heap[y]? = some (.cells #[.slice A0 ts.length c0, .slice A1 os.length c1] 26 (0, 0))) := by rw [hw2, hy]; exact Lib.hid (heap_alloc_new w1 _)
    clear hco hdb hb1
    go_upto_region 4 with (fail)
    rw [← hw2, ← hy]
    clear hw2 hy hb2
    have y0 : w2.cell? ⟨y, 0, none⟩ = some (.slice A0 ts.length c0) := cell_of_row _ _ _ _ _ _ HY2.out
    have y1 : w2.cell? ⟨y, 1, none⟩ = some (.slice A1 os.length c1) := cell_of_row _ _ _ _ _ _ HY2.out
    have hyl : y < w2.heap.size := hlt_of HY2.out
    go_wp2_with fail
    refine (implSnapD_any ts os a b A0 _ c0 A1 _ c1 w2 _ w2.heap.size (Nat.le_refl _) HCO2.out.rd.1 HCO2.out.rd.2 ht12 ho13 HWF.out).mono ?_
    rintro e w3 ⟨v3, m3, hv3, hm3, hb3, rfl⟩
    obtain ⟨B3, d3, rfl, -, -, -⟩ := Rd.of_own hv3
    have HV3 := Lib.hid (own_ints hv3).rd.ints
    have hwl3 : w2.heap.size ≤ w3.heap.size := hb3.size
    have HB3 := Lib.hid (bel_tr HB2.out (Nat.le_refl _) hb3)
    have HCO3 := Lib.hid (HCO2.out.fresh hb3)
    have HY3 := Lib.hid ((hb3.block _ hyl).trans HY2.out)
    have y30 : w3.cell? ⟨y, 0, none⟩ = some (.slice A0 ts.length c0) := cell_of_row _ _ _ _ _ _ HY3.out
    have y31 : w3.cell? ⟨y, 1, none⟩ = some (.slice A1 os.length c1) := cell_of_row _ _ _ _ _ _ HY3.out
    have hyl3 : y < w3.heap.size := hlt_of HY3.out
    clear hb3 hv3 y0 y1
    go_wp2_with fail
    refine (specSnapD_any ts os a b A0 _ c0 A1 _ c1 w3 _ w3.heap.size (Nat.le_refl _) HCO3.out.rd.1 HCO3.out.rd.2 ho13).mono ?_
    rintro e w4 ⟨v4, m4, hv4, hm4, hb4, rfl⟩
    obtain ⟨B4, d4, rfl, -, -, -⟩ := Rd.of_own hv4
    have HV4 := Lib.hid (own_ints hv4).rd.ints
    have HV34 := Lib.hid (HV3.out.below hb4 (Nat.le_refl _))
    have hmm : m4 = m3 := by have h1 := HV4.out.1; have h2 := HV3.out.1; omega
    subst hmm
    have HB4 := Lib.hid (bel_tr HB3.out (Nat.le_refl _) hb4)
    have HCO4 := Lib.hid (HCO3.out.fresh hb4)
    have HY4 := Lib.hid ((hb4.block _ hyl3).trans HY3.out)
    have y40 : w4.cell? ⟨y, 0, none⟩ = some (.slice A0 ts.length c0) := cell_of_row _ _ _ _ _ _ HY4.out
    have y41 : w4.cell? ⟨y, 1, none⟩ = some (.slice A1 os.length c1) := cell_of_row _ _ _ _ _ _ HY4.out
    have hyl4 : y < w4.heap.size := hlt_of HY4.out
    have hwl4 : w3.heap.size ≤ w4.heap.size := hb4.size
    clear hb4 hv4 y30 y31 HV3
    have hm60 : m4 ≤ 9223372036854775807 := by omega
    go_wp2_with fail
    refine (sameInts_any B3 B4 m4 d3 d4 (difL ⟨ts, os⟩ a b) w4 _ _ _ _ hm60 HV34.out HV4.out).mono ?_
    rintro e w5 ⟨rfl, k5, hw5⟩
    have hb5 : Below w4.heap.size w4 w5 := by rw [hw5]; exact below_dn w4 k5 _
    have HB5 := Lib.hid (bel_tr HB4.out (Nat.le_refl _) hb5)
    have HCO5 := Lib.hid (HCO4.out.fresh hb5)
    have HY5 := Lib.hid ((hb5.block _ hyl4).trans HY4.out)
    have HV35 := Lib.hid (HV34.out.below hb5 (by omega))
    have HV45 := Lib.hid (HV4.out.below hb5 (Nat.le_refl _))
    have y50 : w5.cell? ⟨y, 0, none⟩ = some (.slice A0 ts.length c0) := cell_of_row _ _ _ _ _ _ HY5.out
    have y51 : w5.cell? ⟨y, 1, none⟩ = some (.slice A1 os.length c1) := cell_of_row _ _ _ _ _ _ HY5.out
    have hyl5 : y < w5.heap.size := hlt_of HY5.out
    have hs45 : w4.heap.size ≤ w5.heap.size := hb5.size
    clear hb5 hw5 y40 y41
    go_wp2_with fail
    refine (specCoord_any ts os A0 _ c0 A1 _ c1 w5 _ w5.heap.size (Nat.le_refl _) HCO5.out.rd.1 HCO5.out.rd.2).mono ?_
    rintro e w6 ⟨rfl, hb6⟩
    have HB6 := Lib.hid (bel_tr HB5.out (Nat.le_refl _) hb6)
    have HCO6 := Lib.hid (HCO5.out.fresh hb6)
    have HY6 := Lib.hid ((hb6.block _ hyl5).trans HY5.out)
    have hs56 := hb6.size
    have HV36 := Lib.hid (HV35.out.below hb6 (by omega))
    have HV46 := Lib.hid (HV45.out.below hb6 hs45)
    have y60 : w6.cell? ⟨y, 0, none⟩ = some (.slice A0 ts.length c0) := cell_of_row _ _ _ _ _ _ HY6.out
    have y61 : w6.cell? ⟨y, 1, none⟩ = some (.slice A1 os.length c1) := cell_of_row _ _ _ _ _ _ HY6.out
    have hyl6 : y < w6.heap.size := hlt_of HY6.out
    clear hb6 y50 y51
    rcases hv : coordB ⟨ts, os⟩ with _ | _
    · clear hv
      go_wp2_with fail
      refine (sameInts_any B3 B4 m4 d3 d4 (difL ⟨ts, os⟩ a b) w6 _ _ _ _ hm60 HV36.out HV46.out).mono ?_
      rintro e w7 ⟨rfl, k7, hw7⟩
      have HB7 : Hid (Below w.heap.size w w7) := by rw [hw7]; exact Lib.hid (HB6.out.trans (below_dn w6 k7 _))
      clear hw7
      go_wp2_with fail
      go_ret
      exact ⟨rfl, HB7.out⟩
    have HV := Lib.hid hv
    clear hv
    by_cases hc : a < 0
    ·
      go_wp2_with fail
      refine (sameInts_any B3 B4 m4 d3 d4 (difL ⟨ts, os⟩ a b) w6 _ _ _ _ hm60 HV36.out HV46.out).mono ?_
      rintro e w7 ⟨rfl, k7, hw7⟩
      have HB7 : Hid (Below w.heap.size w w7) := by rw [hw7]; exact Lib.hid (HB6.out.trans (below_dn w6 k7 _))
      clear hw7
      go_wp2_with fail
      go_ret
      exact ⟨rfl, HB7.out⟩
    have ha1 : 0 ≤ a := by omega
    clear hc
    by_cases hc : (os.length : Int) < a
    ·
      go_wp2_with fail
      refine (sameInts_any B3 B4 m4 d3 d4 (difL ⟨ts, os⟩ a b) w6 _ _ _ _ hm60 HV36.out HV46.out).mono ?_
      rintro e w7 ⟨rfl, k7, hw7⟩
      have HB7 : Hid (Below w.heap.size w w7) := by rw [hw7]; exact Lib.hid (HB6.out.trans (below_dn w6 k7 _))
      clear hw7
      go_wp2_with fail
      go_ret
      exact ⟨rfl, HB7.out⟩
    have ha2 : a ≤ os.length := by omega
    clear hc
    by_cases hc : b < 0
    ·
      go_wp2_with fail
      refine (sameInts_any B3 B4 m4 d3 d4 (difL ⟨ts, os⟩ a b) w6 _ _ _ _ hm60 HV36.out HV46.out).mono ?_
      rintro e w7 ⟨rfl, k7, hw7⟩
      have HB7 : Hid (Below w.heap.size w w7) := by rw [hw7]; exact Lib.hid (HB6.out.trans (below_dn w6 k7 _))
      clear hw7
      go_wp2_with fail
      go_ret
      exact ⟨rfl, HB7.out⟩
    have hb1 : 0 ≤ b := by omega
    clear hc
    by_cases hc : (os.length : Int) < b
    ·
      go_wp2_with fail
      refine (sameInts_any B3 B4 m4 d3 d4 (difL ⟨ts, os⟩ a b) w6 _ _ _ _ hm60 HV36.out HV46.out).mono ?_
      rintro e w7 ⟨rfl, k7, hw7⟩
      have HB7 : Hid (Below w.heap.size w w7) := by rw [hw7]; exact Lib.hid (HB6.out.trans (below_dn w6 k7 _))
      clear hw7
      go_wp2_with fail
      go_ret
      exact ⟨rfl, HB7.out⟩
    have hb2 : b ≤ os.length := by omega
    clear hc
    have HOK0 : Hid (okSn ⟨ts, os⟩ a b = true) := by
      show okSn _ _ _ = true
      unfold okSn
      rw [HV.out]
      simp only [Bool.and_eq_true, inR_iff]
      exact ⟨⟨trivial, ha1, ha2⟩, hb1, hb2⟩
    go_wp2_with fail
    go_loopw [8] (fun i wr => ∃ k : Nat, k ≤ 3 ∧ i = .int .i64 k ∧ Below w6.heap.size w6 wr) (fun i _ => 3 - (intOf i).toNat)
    case atStart => exact ⟨0, by omega, rfl, Below.refl _ _⟩
    case round =>
      obtain ⟨k, hk, rfl, hb⟩ := hrel
      have HOK := HOK0
      obtain ⟨wo, hwo⟩ : ∃ wo, wo = wr := ⟨_, rfl⟩
      subst hwo
      have HBR := Lib.hid (HB6.out.trans (hb.mono HB6.out.size))
      have HBW := Lib.hid hb
      have HCOR := Lib.hid (HCO6.out.fresh hb)
      have HYR := Lib.hid ((hb.block _ hyl6).trans HY6.out)
      have HV3R := Lib.hid (HV36.out.below hb (by omega))
      have HV3D : Hid (Ints wo.drew w2.heap.size w3.heap.size B3 m4 (difL ⟨ts, os⟩ a b)) := Lib.hid (HV3R.out.below ((Below.refl wo.heap.size wo).drew) (by have := HBW.out.size; omega))
      have hyr := hlt_of HYR.out
      have y70 : wo.cell? ⟨y, 0, none⟩ = some (.slice A0 ts.length c0) := cell_of_row _ _ _ _ _ _ HYR.out
      have y71 : wo.cell? ⟨y, 1, none⟩ = some (.slice A1 os.length c1) := cell_of_row _ _ _ _ _ _ HYR.out
      clear hb y60 y61
      by_cases hlt : k < 3
      · have HHS := Lib.hid (difL_has HOK.out hlt)
        obtain ⟨bd, hbd⟩ : ∃ bd, bd = decide (refsTo ts (k : Int) os a.toNat = refsTo ts (k : Int) os b.toNat) := ⟨_, rfl⟩
        have HD := Lib.hid hbd.symm
        have HHB : Hid (hasB (k : Int) (difL ⟨ts, os⟩ a b) = !bd) := by
          show _ = _
          rw [HHS.out, hbd]
          rfl
        have hbb : ((!bd) == bd) = false := by cases bd <;> rfl
        clear hbd
        have tok0 : True := trivial
        go_wp2_with fail
        go_region_held_law (fun w' => w'.cell? ⟨y, 0, none⟩ = some (.slice A0 ts.length c0) ∧ w'.cell? ⟨y, 1, none⟩ = some (.slice A1 os.length c1)) (go_keep)
          (first
            | (have _t := tok0; go_at_call 12; (refine (hasInt_any B3 m4 d3 (difL ⟨ts, os⟩ a b) (k : Int) _ _ _ hm60 HV3D.out).mono ?_); rintro e w7 ⟨rfl, hw7⟩; have hb7 : Below wo.heap.size wo w7 := (by rw [← hw7]; first | exact (Below.refl _ _).drew | exact Below.refl _ _); have HB7 := Lib.hid (bel_tr HBR.out (Nat.le_refl _) hb7); have HCO7 := Lib.hid (HCOR.out.fresh hb7); have HY7 := Lib.hid ((hb7.block _ hyr).trans HYR.out); have HBX7 := Lib.hid (HBW.out.trans (hb7.mono HBW.out.size)); have y70 : w7.cell? ⟨y, 0, none⟩ = some (.slice A0 ts.length c0) := cell_of_row _ _ _ _ _ _ HY7.out; have y71 : w7.cell? ⟨y, 1, none⟩ = some (.slice A1 os.length c1) := cell_of_row _ _ _ _ _ _ HY7.out; rw [HHB.out]; have tok1 : True := trivial; clear tok0 hb7 hw7)
            | (have _t := tok1; go_at_call 20; (refine (implCoordRefsI_any ts os k a A0 _ c0 A1 _ c1 w7 _ w7.heap.size (Nat.le_refl _) HCO7.out.rd.1 HCO7.out.rd.2 ht12 ho13 HWF.out HV.out hlt ha1 ha2).mono ?_); rintro e w8 ⟨B8, d8, rfl, ho8, hb8⟩; have HO8 := Lib.hid ho8.rd.ints; have HBX8 := Lib.hid (HBX7.out.trans (hb8.mono HBX7.out.size)); have HB8 := Lib.hid (bel_tr HB7.out (Nat.le_refl _) hb8); have HCO8 := Lib.hid (HCO7.out.fresh hb8); have HY8 := Lib.hid ((hb8.block _ (hlt_of HY7.out)).trans HY7.out); have y80 : w8.cell? ⟨y, 0, none⟩ = some (.slice A0 ts.length c0) := cell_of_row _ _ _ _ _ _ HY8.out; have y81 : w8.cell? ⟨y, 1, none⟩ = some (.slice A1 os.length c1) := cell_of_row _ _ _ _ _ _ HY8.out; have tok2 : True := trivial; clear tok1 hb8 ho8)
            | (have _t := tok2; go_at_call 20; (refine (implCoordRefsI_any ts os k b A0 _ c0 A1 _ c1 w8 _ w8.heap.size (Nat.le_refl _) HCO8.out.rd.1 HCO8.out.rd.2 ht12 ho13 HWF.out HV.out hlt hb1 hb2).mono ?_); rintro e w9 ⟨B9, d9, rfl, ho9, hb9⟩; have HO9 := Lib.hid ho9.rd.ints; have HP9 := Lib.hid (HO8.out.below hb9 (Nat.le_refl _)); have HBX9 := Lib.hid (HBX8.out.trans (hb9.mono HBX8.out.size)); have HB9 := Lib.hid (bel_tr HB8.out (Nat.le_refl _) hb9); have HCO9 := Lib.hid (HCO8.out.fresh hb9); have HY9 := Lib.hid ((hb9.block _ (hlt_of HY8.out)).trans HY8.out); have y90 : w9.cell? ⟨y, 0, none⟩ = some (.slice A0 ts.length c0) := cell_of_row _ _ _ _ _ _ HY9.out; have y91 : w9.cell? ⟨y, 1, none⟩ = some (.slice A1 os.length c1) := cell_of_row _ _ _ _ _ _ HY9.out; have tok3 : True := trivial; clear tok2 hb9 ho9)
            | (have _t := tok3; go_at_call 19; (refine (sameIntsG_any B8 B9 4 d8 d9 (refsTo ts (k : Int) os a.toNat) (refsTo ts (k : Int) os b.toNat) w9 _ _ _ _ (by omega) HP9.out HO9.out).mono ?_); rintro e w10 ⟨rfl, k10, hw10⟩; have HBX10 : Hid (Below w6.heap.size w6 w10) := Lib.hid (HBX9.out.trans (by rw [hw10]; exact below_dn w9 k10 _)); have yA0 : w10.cell? ⟨y, 0, none⟩ = some (.slice A0 ts.length c0) := (by rw [hw10]; exact y90); have yA1 : w10.cell? ⟨y, 1, none⟩ = some (.slice A1 os.length c1) := (by rw [hw10]; exact y91); rw [HD.out]; clear tok3 hw10))
        all_goals
          go_wp2_with fail
          go_roundw
          case rel => exact ⟨k + 1, by omega, by go_num, HBX10.out⟩
          case measure => simp [intOf]; omega
      · have hk3 : k = 3 := by omega
        clear hk hlt
        have HDS := Lib.hid (difL_symm HOK.out)
        have HDE := Lib.hid (difL_same ⟨ts, os⟩ a)
        go_wp2_with fail
        refine (implSnapD_any ts os b a A0 _ c0 A1 _ c1 wo _ wo.heap.size (Nat.le_refl _) HCOR.out.rd.1 HCOR.out.rd.2 ht12 ho13 HWF.out).mono ?_
        rintro e w8 ⟨v8, m8, hv8, hm8, hb8, rfl⟩
        rw [HDS.out] at hv8
        obtain ⟨B8, d8, rfl, -, -, -⟩ := Rd.of_own hv8
        have HV8 := Lib.hid (own_ints hv8).rd.ints
        have HV38 := Lib.hid (HV3R.out.below hb8 (by have := HBW.out.size; omega))
        have hmm : m8 = m4 := by have h1 := HV8.out.1; have h2 := HV38.out.1; omega
        subst hmm
        have HB8 := Lib.hid (bel_tr HBR.out (Nat.le_refl _) hb8)
        have HCO8 := Lib.hid (HCOR.out.fresh hb8)
        have HY8 := Lib.hid ((hb8.block _ hyr).trans HYR.out)
        have y80 : w8.cell? ⟨y, 0, none⟩ = some (.slice A0 ts.length c0) := cell_of_row _ _ _ _ _ _ HY8.out
        have y81 : w8.cell? ⟨y, 1, none⟩ = some (.slice A1 os.length c1) := cell_of_row _ _ _ _ _ _ HY8.out
        have hyl8 : y < w8.heap.size := hlt_of HY8.out
        have hs8 : wo.heap.size ≤ w8.heap.size := hb8.size
        clear hb8 hv8 y70 y71
        go_wp2_with fail
        refine (sameInts_any B8 B3 m8 d8 d3 (difL ⟨ts, os⟩ a b) w8 _ _ _ _ hm60 HV8.out HV38.out).mono ?_
        rintro e w9 ⟨rfl, k9, hw9⟩
        have hb9 : Below w8.heap.size w8 w9 := by rw [hw9]; exact below_dn w8 k9 _
        have HB9 := Lib.hid (bel_tr HB8.out (Nat.le_refl _) hb9)
        have HCO9 := Lib.hid (HCO8.out.fresh hb9)
        have HY9 := Lib.hid ((hb9.block _ hyl8).trans HY8.out)
        have HV39 := Lib.hid (HV38.out.below hb9 (by have := HBW.out.size; omega))
        have y90 : w9.cell? ⟨y, 0, none⟩ = some (.slice A0 ts.length c0) := cell_of_row _ _ _ _ _ _ HY9.out
        have y91 : w9.cell? ⟨y, 1, none⟩ = some (.slice A1 os.length c1) := cell_of_row _ _ _ _ _ _ HY9.out
        have hs9 : w8.heap.size ≤ w9.heap.size := hb9.size
        clear hb9 hw9 y80 y81
        go_wp2_with fail
        refine (implSnapD_any ts os a a A0 _ c0 A1 _ c1 w9 _ w9.heap.size (Nat.le_refl _) HCO9.out.rd.1 HCO9.out.rd.2 ht12 ho13 HWF.out).mono ?_
        rintro e w10 ⟨v10, m10, hv10, hm10, hb10, rfl⟩
        rw [HDE.out] at hv10
        obtain ⟨B10, d10, rfl, -, -, -⟩ := Rd.of_own hv10
        have hm0 : m10 = 0 := by have h1 := (own_ints (xs := []) hv10).rd.ints.1; simpa using h1.symm
        subst hm0
        have HB10 := Lib.hid (bel_tr HB9.out (Nat.le_refl _) hb10)
        have HV310 := Lib.hid (HV39.out.below hb10 (by have := HBW.out.size; omega))
        have hasc : (difL ⟨ts, os⟩ a b).Pairwise (· < ·) := by rw [difL_yes HOK.out]; exact difTo_asc _ _ _ _
        have HAS := Lib.hid hasc
        clear hb10 hv10 y90 y91 hasc
        go_wp2_with fail
        refine (ascending_any B3 m8 d3 (difL ⟨ts, os⟩ a b) w10 _ _ (by omega) HV310.out HAS.out).mono ?_
        rintro e w11 ⟨rfl, k11, hw11⟩
        have HB11 : Hid (Below w.heap.size w w11) := by rw [hw11]; exact Lib.hid (HB10.out.trans (below_dn w10 k11 _))
        clear hw11
        go_wp2_with fail
        go_ret
        exact ⟨rfl, HB11.out⟩

set_option linter.unusedVariables false
set_option maxRecDepth 100000 in
theorem lifted (os : Os) (started : os.Started) (H : Type) (enc : TypeId × Value → H) :
    ReturnsInHanded {} Try.checked os 6 .any (Rows.fnSnapshotDifferSpec.pre6 enc Try.prog Try.f6 Rows.fnSnapshotDifferRow.domain false) (Rows.fnSnapshotDifferSpec.post enc Try.prog Try.f6 false true false false) := by
  refine returnsInHanded_of_change (C := Try.checked) Try.own started (by kernel_rfl) Try.func6
    (ChangeSpec.witness6 (enc := enc) (C := Try.checked) false ⟨#[], #[.slice none 0 0], []⟩ 8 (by kernel_rfl) (by kernel_rfl) (by kernel_rfl) (by kernel_rfl)) ?_
  intro W base args ds gs before hval0 hW hcnd _
  have hval : ∀ (j : Nat) t v, Try.f6.params[j]? = some t → args[j]? = some v → Value.okWide Try.prog W .any base t v := hval0
  have hW' := hW
  obtain ⟨p, q, hA0, hV, rfl, hfz, hnd⟩ := hW
  have hA : DataW.TrodAll enc Try.prog W 0 (fun _ => true) true Try.f6.params.toList args.toList ds p := hA0
  rw [Try.params6] at hA hval
  obtain ⟨v0, vs0, d0, ds0, p0, q0, hargs, rfl, rfl, h0, r0⟩ := trodAll_cons hA
  obtain ⟨rfl, rfl, rfl⟩ := trodAll_nil r0
  obtain rfl : args = #[v0] := by cases args; simp_all
  obtain ⟨rfl, rfl⟩ := trodVars_none hV
  have k0 := h0
  have lt0 : ∀ x ∈ p0, x.block < W.heap.size := by obtain ⟨m, hm⟩ := k0; exact DataW.trod_lt m _ _ _ hm
  obtain ⟨a0, len0, cap0, rfl⟩ := okWide_slice Try.underlying22 (hval 0 22 v0 rfl rfl)
  obtain ⟨z0, w0⟩ := open_row (k := .u8) Try.underlying22 Try.underlying5 (by kernel_rfl) h0 (fun _ => rfl)
  clear hA0 hval0
  refine (walk a0 len0 cap0 z0 W w0).mono fun e W' ⟨he, bel⟩ => ?_
  subst he
  exact ⟨_, rfl, _, _, _, [], _, [], hW', trodAll_mk1 (shut_bool Try.underlying4 _), (trodAll_cons_mk (Below.trod Try.laidOut (by kernel_rfl) (of_decide_eq_true (by kernel_rfl)) k0 bel lt0) trodAll_mk0), rfl, bel.frame _, fun h => by cases h⟩

theorem proved : Rows.FnSnapshotDifferSaid :=
  OpenClaim.holds_of_wide 6 Try.f6 rfl rfl rfl rfl rfl rfl rfl ⟨rfl, rfl, rfl, rfl, rfl⟩ rfl rfl rfl rfl rfl (by kernel_rfl) Try.func6 (by kernel_rfl)
    (of_decide_eq_true (by kernel_rfl)) (by unfold Func.isWrapper; first | (rw [if_pos (by decide +kernel)]; kernel_rfl) | (rw [if_neg (by decide +kernel)]; exact ⟨rfl, rfl⟩))
    (fun os started H enc _ => lifted os started H enc)

#print axioms proved
end Go.Proofs.Ytgbkjfhmbchiiaa.fnSnapshotDiffer
