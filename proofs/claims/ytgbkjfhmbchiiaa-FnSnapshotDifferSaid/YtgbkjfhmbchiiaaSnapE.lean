/-
  The walk of the reference's SnapshotDiffer: the shards whose refs differ. Condition: lengths are small.
-/
import Derived.Test.YtgbkjfhmbchiiaaSnapS
import Derived.Test.YtgbkjfhmbchiiaaM17
import Derived.Test.YtgbkjfhmbchiiaaM2
import Derived.Test.YtgbkjfhmbchiiaaClone
namespace Go.Proofs.Ytgbkjfhmbchiiaa
set_option linter.unusedVariables false
set_option linter.unusedSimpArgs false
open Go.RowKit

theorem okE_mk {c : CoordD} {a b : Int} (h1 : coordB c = true) (h2 : inR a 0 c.order.length = true) (h3 : inR b 0 c.order.length = true) : okSn c a b = true := by unfold okSn; rw [h1, h2, h3]; rfl
theorem okE_no1 {c : CoordD} {a b : Int} (h1 : coordB c = false) : okSn c a b = false := by unfold okSn; rw [h1]; rfl
theorem okE_no2 {c : CoordD} {a b : Int} (h1 : inR a 0 c.order.length = false) : okSn c a b = false := by unfold okSn; rw [h1]; simp
theorem okE_no3 {c : CoordD} {a b : Int} (h1 : inR b 0 c.order.length = false) : okSn c a b = false := by unfold okSn; rw [h1]; simp

set_option maxHeartbeats 3200000 in
set_option maxRecDepth 100000 in
theorem specSnapD_any (txns : List TxnD) (order : List Int) (a b : Int) (A0 : Option Addr) (n0 c0 : Nat) (A1 : Option Addr) (n1 c1 : Nat) (w : World) (lo hi : Nat) (hh : hi ≤ w.heap.size) (hr0 : D.rd w lo hi (dTxns txns) (.slice A0 n0 c0)) (hr1 : D.rd w lo hi (intsD order) (.slice A1 n1 c1)) (hn1 : n1 ≤ 1048576) :
    Calls Try.prog 18 #[.agg #[.slice A0 n0 c0, .slice A1 n1 c1], .int .i64 a, .int .i64 b] w fun e w' => ∃ (v : Value) (m : Nat), w'.ownsRow w.heap.size 3 1 v m ((difL ⟨txns, order⟩ a b).flatMap ci) ∧ m ≤ 3 ∧ Below w.heap.size w w' ∧ e = .returned v := by
  have HB0 : Hid (Below w.heap.size w ((w.alloc (.cells #[.slice A0 n0 c0, .slice A1 n1 c1] 26)).alloc (.cells #[] 3))) := ((Below.refl _ _).alloc (Nat.le_refl _) _).alloc (by simp) _
  have HX0 : Hid (((w.alloc (.cells #[.slice A0 n0 c0, .slice A1 n1 c1] 26)).alloc (.cells #[] 3)).heap[w.heap.size]? = some (.cells #[.slice A0 n0 c0, .slice A1 n1 c1] 26 (0, 0))) := Lib.hid ((Below.heap_alloc _ _ _ (by simp)).trans (heap_alloc_new w _))
  have HR0 : Hid (World.ownsRow ((w.alloc (.cells #[.slice A0 n0 c0, .slice A1 n1 c1] 26)).alloc (.cells #[] 3)) (w.heap.size + 1) 3 1 (.slice (some ⟨w.heap.size + 1, 0, none⟩) 0 0) 0 ((difTo ⟨txns, order⟩ a b 0).flatMap ci)) := by
    have := own_nil_lit (w.alloc (.cells #[.slice A0 n0 c0, .slice A1 n1 c1] 26)) 3 1
    rw [World.size_alloc] at this
    exact Lib.hid this
  have HT := Lib.hid hr0
  have HO := Lib.hid hr1
  have HL := Lib.hid hr1.ints.1
  clear hr0 hr1
  go_enter Try.func18, Try.ntmps18
  go_wp2_with fail
  go_loopw [7, 8] (fun y i wr => ∃ (k m : Nat) (v : Value), k ≤ 3 ∧ m ≤ k ∧ i = .int .i64 k ∧ v = y ∧ Hid (wr.ownsRow (w.heap.size + 1) 3 1 v m ((difTo ⟨txns, order⟩ a b k).flatMap ci)) ∧ Hid (0 < k → okSn ⟨txns, order⟩ a b = true) ∧ Hid (wr.heap[w.heap.size]? = some (.cells #[.slice A0 n0 c0, .slice A1 n1 c1] 26 (0, 0))) ∧ Below w.heap.size w wr) (fun _ i _ => 3 - (intOf i).toNat)
  case atStart => exact ⟨0, 0, _, by omega, by omega, rfl, rfl, HR0.out, fun h => by omega, HX0.out, HB0.out⟩
  case round =>
    obtain ⟨k, m, v, hk, hmk, rfl, rfl, HR, HK, HX, hb⟩ := hrel
    have HB := Lib.hid hb
    have hwsz : w.heap.size < wr.heap.size := hlt_of HX.out
    have b0 := cell_of_row wr w.heap.size 0 _ _ _ HX.out
    have b1 := cell_of_row wr w.heap.size 1 _ _ _ HX.out
    clear hb HR0 HX0 HB0
    by_cases hlt : k < 3
    · have hlt2 : (k : Int) < 3 := by omega
      have hhr : hi ≤ wr.heap.size := by omega
      have hstop : Hid (okSn ⟨txns, order⟩ a b = false → difL ⟨txns, order⟩ a b = difTo ⟨txns, order⟩ a b k) := Lib.hid fun h => by
        rcases Nat.eq_zero_or_pos k with h0 | h0
        · rw [h0, difL_no h]; rfl
        · rw [HK.out h0] at h; cases h
      go_wp2_with fail
      refine (specCoord_any txns order A0 n0 c0 A1 n1 c1 wr lo hi hhr (HT.out.below HB.out hh) (HO.out.below HB.out hh)).mono ?_
      rintro e w1 ⟨rfl, hb1⟩
      have HB1 := Lib.hid (bel_tr HB.out (Nat.le_refl _) hb1)
      have HX1 := Lib.hid ((hb1.block _ hwsz).trans HX.out)
      have HR1 := Lib.hid (own_below HR.out hb1)
      have hz1 : w.heap.size < w1.heap.size := hlt_of HX1.out
      have hhr1 : hi ≤ w1.heap.size := Nat.le_trans hhr hb1.size
      have d0 := cell_of_row w1 w.heap.size 0 _ _ _ HX1.out
      have d1 := cell_of_row w1 w.heap.size 1 _ _ _ HX1.out
      clear hb1
      rcases hv : coordB ⟨txns, order⟩ with _ | _
      · have hno := Lib.hid (hstop.out (okE_no1 hv))
        clear hv
        go_wp2_with fail
        go_ret
        exact ⟨v, m, by rw [hno.out]; exact own_base HR1.out (by omega), by omega, HB1.out, rfl⟩
      have HV := Lib.hid hv
      clear hv
      rcases ha : inR a 0 n1 with _ | _
      · have hno := Lib.hid (hstop.out (okE_no2 (c := ⟨txns, order⟩) (by show inR a 0 order.length = false; rw [HL.out]; exact ha)))
        go_wp2_with (go_at_call 41; refine (l6In_any _ _ _ _).mono ?_; rintro e w' ⟨rfl, rfl⟩)
        go_ret
        exact ⟨v, m, by rw [hno.out]; exact own_base HR1.out (by omega), by omega, HB1.out, rfl⟩
      rcases hbb : inR b 0 n1 with _ | _
      · have hno := Lib.hid (hstop.out (okE_no3 (c := ⟨txns, order⟩) (by show inR b 0 order.length = false; rw [HL.out]; exact hbb)))
        go_wp2_with (go_at_call 41; refine (l6In_any _ _ _ _).mono ?_; rintro e w' ⟨rfl, rfl⟩)
        go_ret
        exact ⟨v, m, by rw [hno.out]; exact own_base HR1.out (by omega), by omega, HB1.out, rfl⟩
      have hok := Lib.hid (okE_mk (c := ⟨txns, order⟩) (a := a) (b := b) HV.out (by show inR a 0 order.length = true; rw [HL.out]; exact ha) (by show inR b 0 order.length = true; rw [HL.out]; exact hbb))
      have ha' := (inR_iff _ _ _).1 ha
      have hb' := (inR_iff _ _ _).1 hbb
      obtain ⟨p, rfl⟩ := Int.eq_ofNat_of_zero_le ha'.1
      obtain ⟨q, rfl⟩ := Int.eq_ofNat_of_zero_le hb'.1
      have hp : p ≤ n1 := by omega
      have hq : q ≤ n1 := by omega
      go_wp2_with (go_at_call 41; refine (l6In_any _ _ _ _).mono ?_; rintro e w' ⟨rfl, rfl⟩)
      clear ha hbb ha' hb' hstop
      go_upto_region 5 with (fail)
      go_cut [42] (fun u wx => u = .bool (difAt ⟨txns, order⟩ p q k) ∧ Hid (wx.ownsRow (w.heap.size + 1) 3 1 v m ((difTo ⟨txns, order⟩ p q k).flatMap ci)) ∧ Hid (wx.heap[w.heap.size]? = some (.cells #[.slice A0 n0 c0, .slice A1 n1 c1] 26 (0, 0))) ∧ Below w.heap.size w wx)
      case first =>
        have tok1 : True := trivial
        have HRP := Lib.hid (refsTo_refs (c := ⟨txns, order⟩) HV.out k (k := p) (by show p ≤ order.length; rw [HL.out]; exact hp))
        have HRQ := Lib.hid (refsTo_refs (c := ⟨txns, order⟩) HV.out k (k := q) (by show q ≤ order.length; rw [HL.out]; exact hq))
        have HDA : Hid (decide (0 < (differL (refsTo txns (k : Int) order p) (refsTo txns (k : Int) order q)).length) = difAt ⟨txns, order⟩ p q k) := Lib.hid (differ_pos HRP.out HRQ.out)
        go_region_with
          (first
            | (go_at_call 43; have _t := tok1; (refine (l22Refs_any txns order k _ A0 n0 c0 A1 n1 c1 w1.drew lo hi (by show hi ≤ w1.heap.size; exact hhr1) (HT.out.below HB1.out hh).drew (HO.out.below HB1.out hh).drew HV.out (by first | exact hp | exact hq)).mono ?_); rintro e w2 ⟨B2, e2, rfl, hin2, hb2'⟩; have hb2 : Below w1.heap.size w1 w2 := (Below.refl _ _).drew.trans hb2'; have HB2 := Lib.hid (bel_tr HB1.out (Nat.le_refl _) hb2); have HX2 := Lib.hid ((hb2.block _ hz1).trans HX1.out); have HR2 := Lib.hid (own_below HR1.out hb2); have HIN2 := Lib.hid hin2; have hz2 : w.heap.size < w2.heap.size := hlt_of HX2.out; have f0 := cell_of_row w2 w.heap.size 0 _ _ _ HX2.out; have f1 := cell_of_row w2 w.heap.size 1 _ _ _ HX2.out; have hhr2 : hi ≤ w2.heap.size := Nat.le_trans hhr1 hb2.size; clear tok1 _t hb2 hb2' hin2)
            | (go_at_call 43; (refine (l22Refs_any txns order k _ A0 n0 c0 A1 n1 c1 w2 lo hi hhr2 (HT.out.below HB2.out hh) (HO.out.below HB2.out hh) HV.out (by first | exact hp | exact hq)).mono ?_); rintro e w3 ⟨B3, e3, rfl, hin3, hb3⟩; have HB3 := Lib.hid (bel_tr HB2.out (Nat.le_refl _) hb3); have HX3 := Lib.hid ((hb3.block _ hz2).trans HX2.out); have HR3 := Lib.hid (own_below HR2.out hb3); have HIN3 := Lib.hid hin3; have HIN23 := Lib.hid (HIN2.out.below hb3 (Nat.le_refl _)); have hs23 := hb3.size; clear hb3 hin3)
            | (go_at_call 42; (first | (with_reducible refine (specDiffer_any B2 B3 4 e2 4 e3 _ _ w3 _ w2.heap.size _ w3.heap.size hs23 (Nat.le_refl _) (by omega) (by omega) HIN23.out HIN3.out).mono ?_) | (with_reducible refine (specDiffer_any B3 B2 4 e3 4 e2 _ _ w3 _ w3.heap.size _ w2.heap.size (Nat.le_refl _) hs23 (by omega) (by omega) HIN3.out HIN23.out).mono ?_)); rintro e w4 ⟨B4, m4, e4, rfl, -, -, -, hfl4, hb4⟩; have HB4 := Lib.hid (bel_tr HB3.out (Nat.le_refl _) hb4); have HX4 := Lib.hid ((hb4.block _ (hlt_of HX3.out)).trans HX3.out); have HR4 := Lib.hid (own_below HR3.out hb4); have HM4 := Lib.hid hfl4.1; clear hb4 hfl4))
        all_goals (go_wp2_with fail; go_meet; exact ⟨by first | (rw [← HDA.out, HM4.out]; done) | (rw [← HDA.out, HM4.out]; simp), HR4.out, HX4.out, HB4.out⟩)
      case rest =>
        obtain ⟨rfl, HR4, HX4, hb4⟩ := hcut
        have HB4 := Lib.hid hb4
        have HDS := Lib.hid (difTo_succ ⟨txns, order⟩ (p : Int) (q : Int) k)
        have hz4 : w.heap.size < wc.heap.size := hlt_of HX4.out
        clear hb4
        rcases hda : difAt ⟨txns, order⟩ p q k with _ | _
        · have HO3 : Hid (wc.ownsRow (w.heap.size + 1) 3 1 v m ((difTo ⟨txns, order⟩ p q (k + 1)).flatMap ci)) := by
            show World.ownsRow _ _ _ _ _ _ _
            rw [HDS.out, hda]; exact HR4.out
          clear hda
          go_wp2_with fail
          exact ⟨⟨k + 1, m, _, by omega, by omega, by go_num, rfl, HO3.out, fun _ => hok.out, HX4.out, HB4.out⟩, by simp [intOf]; omega⟩
        · have hda' := Lib.hid hda
          clear hda
          go_wp2_with (at_builtin; go_must (refine wpList_app Try.elI (m := 1) (HR4.out.alloc _) (rd_newn (n := wc.heap.size) rfl [.int .i64 (k : Int)] 3) rfl (by simp [Value.oneCell']) (by unfold maxLen; omega) (by omega) (by simp; omega) rfl rfl rfl rfl ?_); intro v2 w5 hown2 hg2; have HO2 := Lib.hid hown2; have HB5 := Lib.hid (below_app (HB4.out.alloc (by omega) _) (by omega : w.heap.size ≤ w.heap.size + 1) (by simp; omega) (HR4.out.alloc _) hg2); have HX5 := Lib.hid ((hg2.block _ (by simp; omega) (fun e => by have := (HR4.out.lt w.heap.size e.symm).1; omega)).trans ((Below.heap_alloc wc _ _ hz4).trans HX4.out)); clear hown2 hg2)
          have HO3 : Hid (w5.ownsRow (w.heap.size + 1) 3 1 v2 (m + 1) ((difTo ⟨txns, order⟩ p q (k + 1)).flatMap ci)) := by
            have := HO2.out
            show World.ownsRow _ _ _ _ _ _ _
            rw [HDS.out, if_pos hda'.out, List.flatMap_append]; exact this
          go_wp2_with fail
          exact ⟨⟨k + 1, m + 1, _, by omega, by omega, by go_num, rfl, HO3.out, fun _ => hok.out, HX5, HB5.out⟩, by simp [intOf]; omega⟩
    · have hkm : k = 3 := by omega
      subst hkm
      have hok := Lib.hid (difL_yes (HK.out (by omega)))
      go_wp2_with fail
      go_ret
      exact ⟨v, m, by rw [hok.out]; exact own_base HR.out (by omega), by omega, HB.out, rfl⟩

end Go.Proofs.Ytgbkjfhmbchiiaa
