/-
  For all arguments: the program's SnapshotFirst returns what the reference's returns, and leaves its argument as it was. No condition.
-/
import Derived.Test.YtgbkjfhmbchiiaaFirst
import Derived.Test.YtgbkjfhmbchiiaaOCoord
namespace Go.Proofs.Ytgbkjfhmbchiiaa.fnExactSnapshotFirst
set_option linter.unusedVariables false
set_option linter.unusedSimpArgs false
open Go.ChangeShapes Go.WideShapes Go.ChangeAt Go.RowKit

theorem rd2 {w : World} {lo : Nat} {d0 d1 : D} {v0 v1 : Value} (h : OwnL w lo [d0, d1] [v0, v1]) : D.rd w lo w.heap.size d0 v0 ∧ D.rd w lo w.heap.size d1 v1 := by
  obtain ⟨F, _, h2, h3⟩ := h
  have := D.ownL.rd _ F _ h2 h3
  unfold D.rdL at this
  obtain ⟨_, _, e, g0, this⟩ := this
  unfold D.rdL at this
  obtain ⟨_, _, e2, g1, _⟩ := this
  injection e with e3 e4
  subst e3 e4
  injection e2 with e5 e6
  subst e5
  exact ⟨g0, g1⟩

set_option maxHeartbeats 3200000 in
set_option maxRecDepth 100000 in
theorem walk (A0 : Option Addr) (n0 c0 : Nat) (ts : List TxnD) (A1 : Option Addr) (n1 c1 : Nat) (os : List Int) (txn : Int) (w : World) (w0 : D.rd w 0 w.heap.size (dTxns ts) (.slice A0 n0 c0) ∧ D.rd w 0 w.heap.size (intsD os) (.slice A1 n1 c1) ∧ D.wf (dTxns ts) ∧ D.wf (intsD os)) (wn : (Lit.int .i64 txn).wf = true) :
    Calls Try.prog 4 #[.agg #[.slice A0 n0 c0, .slice A1 n1 c1], .int .i64 txn] w fun e w' => e = .returned (.bool true) ∧ Below w.heap.size w w' := by
  obtain ⟨hr0, hr1, hw0, -⟩ := w0
  have HT := Lib.hid hr0
  have HO := Lib.hid hr1
  have HWF := Lib.hid (wf_votes hw0)
  have HN0 := Lib.hid hr0.len.1
  have HN1 := Lib.hid hr1.ints.1
  have HB0 : Hid (Below w.heap.size w (w.alloc (.cells #[.slice A0 n0 c0, .slice A1 n1 c1] 35))) := (Below.refl _ _).alloc (Nat.le_refl _) _
  have HX0 : Hid ((w.alloc (.cells #[.slice A0 n0 c0, .slice A1 n1 c1] 35)).heap[w.heap.size]? = some (.cells #[.slice A0 n0 c0, .slice A1 n1 c1] 35 (0, 0))) := Lib.hid (heap_alloc_new w _)
  clear hr0 hr1 hw0 wn
  go_enter Try.func4, Try.ntmps4
  go_wp2_with fail
  refine (szCoordinator_d ts os A0 n0 c0 A1 n1 c1 1048576 _ 0 w.heap.size HB0.out.size (HT.out.below HB0.out (Nat.le_refl _)) (HO.out.below HB0.out (Nat.le_refl _)) (by omega) (by omega)).mono ?_
  rintro e w1 ⟨r, hr1, hr2, hr3, hb1, rfl⟩
  have HB1 := Lib.hid (bel_tr HB0.out (Nat.le_refl _) hb1)
  have HX1 := Lib.hid ((hb1.block _ (by simp)).trans HX0.out)
  clear hb1
  by_cases hr0 : r < 0
  · go_wp2_with fail
    go_ret
    exact ⟨rfl, HB1.out⟩
  have hr4 : 0 ≤ r := by omega
  have hsz : D.sz (dTxns ts) + D.sz (intsD os) ≤ 1048576 := by
    have h1 := hr3 hr4
    have h2 := szL_fCoordinator ⟨ts, os⟩
    dsimp only at h2
    omega
  have HS0 : Hid (D.sz (dTxns ts) ≤ 1048576) := by show _ ≤ _; omega
  have HS1 : Hid (D.sz (intsD os) ≤ 1048576) := by show _ ≤ _; omega
  have hn0 : n0 ≤ 1048576 := by
    have h1 := HN0.out
    have h2 := HS0.out
    unfold dTxns at h2
    rw [sz_arr] at h2; omega
  have hn1 : n1 ≤ 1048576 := by
    have h1 := HN1.out
    have h2 := HS1.out
    rw [sz_ints] at h2; omega
  have hz1 : w.heap.size < w1.heap.size := hlt_of HX1.out
  have d0 := cell_of_row w1 w.heap.size 0 _ _ _ HX1.out
  have d1 := cell_of_row w1 w.heap.size 1 _ _ _ HX1.out
  clear hr0 hr3 hsz
  go_wp2_with fail
  refine (toCoordinator_d ts os A0 n0 c0 A1 n1 c1 w1 0 w.heap.size HB1.out.size (HT.out.below HB1.out (Nat.le_refl _)) (HO.out.below HB1.out (Nat.le_refl _)) HS0.out HS1.out).mono ?_
  rintro e w2 ⟨B0, bc0, B1, bc1, ho2, hb2, rfl⟩
  have HB2 := Lib.hid (bel_tr HB1.out (Nat.le_refl _) hb2)
  have HX2 := Lib.hid ((hb2.block _ hz1).trans HX1.out)
  have HO2 := Lib.hid (rd2 ho2)
  clear ho2 hb2
  go_wp2_with fail
  refine (specFirst_any ts os txn B0 n0 bc0 B1 n1 bc1 w2 _ w2.heap.size (Nat.le_refl _) HO2.out.1 HO2.out.2 hn1).mono ?_
  rintro e w3 ⟨rfl, hb3⟩
  have HB3 := Lib.hid (bel_tr HB2.out (Nat.le_refl _) hb3)
  have HX3 := Lib.hid ((hb3.block _ (hlt_of HX2.out)).trans HX2.out)
  have hz3 : w.heap.size < w3.heap.size := hlt_of HX3.out
  have d30 := cell_of_row w3 w.heap.size 0 _ _ _ HX3.out
  have d31 := cell_of_row w3 w.heap.size 1 _ _ _ HX3.out
  clear hb3
  go_wp2_with fail
  refine (toCoordinator_d ts os A0 n0 c0 A1 n1 c1 w3 0 w.heap.size HB3.out.size (HT.out.below HB3.out (Nat.le_refl _)) (HO.out.below HB3.out (Nat.le_refl _)) HS0.out HS1.out).mono ?_
  rintro e w4 ⟨E0, ec0, E1, ec1, ho4, hb4, rfl⟩
  have HB4 := Lib.hid (bel_tr HB3.out (Nat.le_refl _) hb4)
  have HX4 := Lib.hid ((hb4.block _ hz3).trans HX3.out)
  have HO4 := Lib.hid (rd2 ho4)
  have HBA : Hid (Below w.heap.size w (w4.alloc (.cells #[.slice E0 n0 ec0, .slice E1 n1 ec1] 26))) := Lib.hid (HB4.out.alloc HB4.out.size _)
  have HXA : Hid ((w4.alloc (.cells #[.slice E0 n0 ec0, .slice E1 n1 ec1] 26)).heap[w.heap.size]? = some (.cells #[.slice A0 n0 c0, .slice A1 n1 c1] 35 (0, 0))) := Lib.hid ((Below.heap_alloc w4 _ _ (hlt_of HX4.out)).trans HX4.out)
  have HYA : Hid ((w4.alloc (.cells #[.slice E0 n0 ec0, .slice E1 n1 ec1] 26)).heap[w4.heap.size]? = some (.cells #[.slice E0 n0 ec0, .slice E1 n1 ec1] 26 (0, 0))) := Lib.hid (heap_alloc_new w4 _)
  have HP0 := Lib.hid (HO4.out.1.alloc (Nat.le_refl _) (.cells #[.slice E0 n0 ec0, .slice E1 n1 ec1] 26))
  have HP1 := Lib.hid (HO4.out.2.alloc (Nat.le_refl _) (.cells #[.slice E0 n0 ec0, .slice E1 n1 ec1] 26))
  clear ho4 hb4
  go_wp2_with fail
  refine (implFirst_any ts os txn E0 n0 ec0 E1 n1 ec1 _ _ w4.heap.size (by simp) HP0.out HP1.out hn0 hn1 HWF.out).mono ?_
  rintro e w5 ⟨rfl, hb5⟩
  have HB5 := Lib.hid (bel_tr HBA.out (Nat.le_refl _) hb5)
  have HX5 := Lib.hid ((hb5.block _ (hlt_of HXA.out)).trans HXA.out)
  have HY5 := Lib.hid ((hb5.block _ (hlt_of HYA.out)).trans HYA.out)
  have HQ0 := Lib.hid (HP0.out.below hb5 (by simp))
  have HQ1 := Lib.hid (HP1.out.below hb5 (by simp))
  have hz5 : w.heap.size < w5.heap.size := hlt_of HX5.out
  have hz5b : w4.heap.size < w5.heap.size := hlt_of HY5.out
  have d50 := cell_of_row w5 w.heap.size 0 _ _ _ HX5.out
  have d51 := cell_of_row w5 w.heap.size 1 _ _ _ HX5.out
  have d52 := cell_of_row w5 w4.heap.size 0 _ _ _ HY5.out
  have d53 := cell_of_row w5 w4.heap.size 1 _ _ _ HY5.out
  have HD5 := Lib.hid (HB5.out.drew)
  clear hb5
  obtain ⟨x, hx⟩ : ∃ x, firstL ⟨ts, os⟩ txn = x := ⟨_, rfl⟩
  rw [hx]
  have hq : (x != x) = false := by simp
  clear hx
  go_wp2_with fail
  go_region_with
    (first
      | (go_at_call 14; (refine (toCoordinator_d ts os A0 n0 c0 A1 n1 c1 w5.drew 0 w.heap.size HD5.out.size (HT.out.below HD5.out (Nat.le_refl _)) (HO.out.below HD5.out (Nat.le_refl _)) HS0.out HS1.out).mono ?_); rintro e w6 ⟨G0, gc0, G1, gc1, ho6, hb6, rfl⟩; have HB6 := Lib.hid (bel_tr HD5.out (Nat.le_refl _) hb6); have HO6 := Lib.hid (rd2 ho6); have d62 : w6.cell? ⟨w4.heap.size, 0, none⟩ = some (.slice E0 n0 ec0) := (hb6.cell hz5b).trans d52; have d63 : w6.cell? ⟨w4.heap.size, 1, none⟩ = some (.slice E1 n1 ec1) := (hb6.cell hz5b).trans d53; have HQ60 := Lib.hid (HQ0.out.drew.below hb6 (by simp; omega)); have HQ61 := Lib.hid (HQ1.out.drew.below hb6 (by simp; omega)); have hz6 : w4.heap.size < w6.heap.size := Nat.lt_of_lt_of_le hz5b hb6.size; clear ho6 hb6)
      | (go_at_call 15; (refine (eqCoordinator_d ts os E0 n0 ec0 E1 n1 ec1 G0 n0 gc0 G1 n1 gc1 w6 _ w4.heap.size _ w6.heap.size (by omega) (Nat.le_refl _) HQ60.out HQ61.out HO6.out.1 HO6.out.2).mono ?_); rintro e w7 ⟨rfl, hb7⟩; have HB7 := Lib.hid (bel_tr HB6.out (Nat.le_refl _) hb7); clear hb7))
  all_goals
    go_wp2_with fail
    go_ret
    exact ⟨rfl, HB7.out⟩

set_option linter.unusedVariables false
set_option maxRecDepth 100000 in
theorem lifted (os : Os) (started : os.Started) (H : Type) (enc : TypeId × Value → H) :
    ReturnsInHanded {} Try.checked os 4 .any (Rows.fnExactSnapshotFirstSpec.pre6 enc Try.prog Try.f4 Rows.fnExactSnapshotFirstRow.domain false) (Rows.fnExactSnapshotFirstSpec.post enc Try.prog Try.f4 false true false false) := by
  refine returnsInHanded_of_change (C := Try.checked) Try.own started (by kernel_rfl) Try.func4
    (ChangeSpec.witness6 (enc := enc) (C := Try.checked) false ⟨#[], #[.agg #[.slice none 0 0, .slice none 0 0], .int .i64 0], []⟩ 8 (by kernel_rfl) (by kernel_rfl) (by kernel_rfl) (by kernel_rfl)) ?_
  intro W base args ds gs before hval0 hW hcnd _
  have hval : ∀ (j : Nat) t v, Try.f4.params[j]? = some t → args[j]? = some v → Value.okWide Try.prog W .any base t v := hval0
  have hW' := hW
  obtain ⟨p, q, hA0, hV, rfl, hfz, hnd⟩ := hW
  have hA : DataW.TrodAll enc Try.prog W 0 (fun _ => true) true Try.f4.params.toList args.toList ds p := hA0
  rw [Try.params4] at hA hval
  obtain ⟨v0, vs0, d0, ds0, p0, q0, hargs, rfl, rfl, h0, r0⟩ := trodAll_cons hA
  obtain ⟨v1, vs1, d1, ds1, p1, q1, rfl, rfl, rfl, h1, r1⟩ := trodAll_cons r0
  obtain ⟨rfl, rfl, rfl⟩ := trodAll_nil r1
  obtain rfl : args = #[v0, v1] := by cases args; simp_all
  obtain ⟨rfl, rfl⟩ := trodVars_none hV
  have k0 := h0
  have lt0 : ∀ x ∈ p0, x.block < W.heap.size := by obtain ⟨m, hm⟩ := k0; exact DataW.trod_lt m _ _ _ hm
  obtain ⟨x0_0, x0_1, x0_2, x0_3, x0_4, x0_5, x0_6, x0_7, rfl, w0⟩ := open_Coord (hval 0 35 v0 rfl rfl) h0
  have k1 := h1
  have lt1 : ∀ x ∈ p1, x.block < W.heap.size := by obtain ⟨m, hm⟩ := k1; exact DataW.trod_lt m _ _ _ hm
  obtain ⟨n1, rfl, _, _, w1⟩ := open_int Try.underlying3 (hval 1 3 v1 rfl rfl) h1
  clear hA0 hval0
  refine (walk x0_0 x0_1 x0_2 x0_3 x0_4 x0_5 x0_6 x0_7 n1 W w0 w1).mono fun e W' ⟨he, bel⟩ => ?_
  subst he
  exact ⟨_, rfl, _, _, _, [], _, [], hW', trodAll_mk1 (shut_bool Try.underlying4 _), (trodAll_cons_mk (Below.trod Try.laidOut (by kernel_rfl) (of_decide_eq_true (by kernel_rfl)) k0 bel lt0) (trodAll_cons_mk (Below.trod Try.laidOut (by kernel_rfl) (of_decide_eq_true (by kernel_rfl)) k1 bel lt1) trodAll_mk0)), rfl, bel.frame _, fun h => by cases h⟩

theorem proved : Rows.FnExactSnapshotFirstSaid :=
  OpenClaim.holds_of_wide 4 Try.f4 rfl rfl rfl rfl rfl rfl rfl ⟨rfl, rfl, rfl, rfl, rfl⟩ rfl rfl rfl rfl rfl (by kernel_rfl) Try.func4 (by kernel_rfl)
    (of_decide_eq_true (by kernel_rfl)) (by unfold Func.isWrapper; first | (rw [if_pos (by decide +kernel)]; kernel_rfl) | (rw [if_neg (by decide +kernel)]; exact ⟨rfl, rfl⟩))
    (fun os started H enc _ => lifted os started H enc)

#print axioms proved
end Go.Proofs.Ytgbkjfhmbchiiaa.fnExactSnapshotFirst
