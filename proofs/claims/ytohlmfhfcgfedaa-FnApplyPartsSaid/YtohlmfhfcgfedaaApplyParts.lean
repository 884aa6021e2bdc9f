/-
  For every two codes: drawn operations that are applied in two parts make what they make together. No condition.
-/
import Derived.Test.YtohlmfhfcgfedaaDrawDelta
namespace Go.Proofs.Ytohlmfhfcgfedaa.fnApplyParts
open Go.ChangeShapes Go.WideShapes Go.ChangeAt Go.RowKit

set_option maxHeartbeats 1600000 in
theorem walk (a0 : Option Addr) (len0 cap0 : Nat) (z0 : List Int) (a1 : Option Addr) (len1 cap1 : Nat) (z1 : List Int) (w : World) (w0 : IsRow .u8 w a0 len0 cap0 z0) (w1 : IsRow .u8 w a1 len1 cap1 z1) :
    Calls Try.prog 6 #[.slice a0 len0 cap0, .slice a1 len1 cap1] w fun e w' => e = .returned (.bool true) ∧ Below w.heap.size w w' := by
  have hn := w0.bd
  have hm := w1.bd
  have HI := Lib.hid w0
  clear w0 w1
  by_cases hbig : 1048576 < len0
  · go_enter Try.func6, Try.ntmps6
    go_wp2
    go_ret
    exact ⟨rfl, Below.refl _ _⟩
  · have hs_len0 : len0 ≤ 1048576 := by omega
    clear hbig
    by_cases hbig : 1048576 < len1
    · go_enter Try.func6, Try.ntmps6
      go_wp2
      go_ret
      exact ⟨rfl, Below.refl _ _⟩
    · have hs_len1 : len1 ≤ 1048576 := by omega
      clear hbig
      go_enter Try.func6, Try.ntmps6
      go_wp2_with fail
      refine (drawDelta_any _ _ _ z0 _ HI.out).mono ?_
      rintro e w1 ⟨s, A1, n1, c1, xs, rfl, hs, hn3, hnc, hcm, hI, htx, hb1⟩
      have HX := Lib.hid hI
      have HT := Lib.hid htx
      have HB1 := Lib.hid hb1
      have hn1 : n1 ≤ 9223372036854775807 := by omega
      have hs1 : s.size ≤ 9223372036854775807 := by omega
      have hc63 : c1 ≤ 9223372036854775807 := by unfold maxLen at hcm; exact hcm
      clear hI hcm htx hb1
      go_wp2_with fail
      refine (implDelta_any s A1 n1 c1 xs _ _ _ (Nat.le_refl _) hs1 hn1 HX.out).mono ?_
      rintro e w2 ⟨rfl, hb2⟩
      have HX2 := Lib.hid (HX.out.below hb2 (Nat.le_refl _))
      have HB2 : Hid (Below w.heap.size w w2) := HB1.out.trans (hb2.mono HB1.out.size)
      have hsz2 := hb2.size
      clear hb2
      unfold DRes
      go_wp2_with fail
      refine (specDelta_any s A1 n1 c1 xs _ _ _ hsz2 hs1 hn1 HX2.out).mono ?_
      rintro e w3 ⟨rfl, hb3⟩
      have HX3 : Hid (Fl co w3 w.heap.size w1.heap.size A1 n1 xs) := HX2.out.below hb3 hsz2
      have HB3 : Hid (Below w.heap.size w w3) := HB2.out.trans (hb3.mono HB2.out.size)
      have hsz3 := Nat.le_trans hsz2 hb3.size
      clear hb3 HX2 HB2
      unfold DRes
      have hq2 : (!((strD s xs).toList == (strD s xs).toList)) = false := by simp
      have hq3 : ((strD s xs).toList == (strD s xs).toList) = true := by simp
      rcases hok : okD s xs with _ | _
      · go_wp2_with fail
        go_ret
        exact ⟨rfl, HB3.out⟩
      · have HOK := Lib.hid hok
        obtain ⟨q, hq⟩ : ∃ q : Nat, (len1 : Int) % ((n1 : Int) + 1) = (q : Int) := ⟨len1 % (n1 + 1), by simp⟩
        have hqn : q ≤ n1 := by have := Int.emod_lt_of_pos (len1 : Int) (show (0 : Int) < (n1 : Int) + 1 by omega); rw [hq] at this; omega
        have hqc : q ≤ c1 := by omega
        have hparts := okD_part (a := xs.take q) (b := xs.drop q) (base := s) (by rw [List.take_append_drop]; exact hok)
        rw [List.take_append_drop] at hparts
        have hp1 := Lib.hid hparts.1
        have hp2 := Lib.hid hparts.2.1
        have hp3 := Lib.hid hparts.2.2
        clear hparts
        go_wp2_with fail
        simp only [hq]
        clear hq
        refine (implDelta_any s A1 q c1 (xs.take q) _ _ _ hsz3 hs1 (by omega) (fl_take HX3.out hqn)).mono ?_
        rintro e w4 ⟨rfl, hb4⟩
        have HX4 : Hid (Fl co w4 w.heap.size w1.heap.size A1 n1 xs) := HX3.out.below hb4 hsz3
        have HB4 : Hid (Below w.heap.size w w4) := HB3.out.trans (hb4.mono HB3.out.size)
        have hsz4 := Nat.le_trans hsz3 hb4.size
        clear hb4 HX3 HB3
        unfold DRes
        rw [hp1.out]
        go_wp2_with fail
        · refine (implDelta_any s _ (n1 - q) _ (xs.drop q) _ _ _ hsz4 hs1 (by omega) (fl_drop0 HX4.out (by omega))).mono ?_
          rintro e w5 ⟨rfl, hb5⟩
          have HB5 : Hid (Below w.heap.size w w5) := HB4.out.trans (hb5.mono HB4.out.size)
          clear hb5 HX4 HB4
          unfold DRes
          rw [hp2.out]
          have hfin : ((strD s (xs.take q) ++ strD s (xs.drop q)).toList == (strD s xs).toList) = true := by rw [hp3.out]; simp
          have hz1 : (strD s (xs.take q)).size ≤ 8 := okD_size hp1.out
          have hz2 : (strD s (xs.drop q)).size ≤ 8 := okD_size hp2.out
          go_wp2_with fail
          go_ret
          exact ⟨rfl, HB5.out⟩
        · refine (implDelta_any s _ (n1 - q) _ (xs.drop q) _ _ _ hsz4 hs1 (by omega) (fl_drop co_len (by omega) HX4.out hqn)).mono ?_
          rintro e w5 ⟨rfl, hb5⟩
          have HB5 : Hid (Below w.heap.size w w5) := HB4.out.trans (hb5.mono HB4.out.size)
          clear hb5 HX4 HB4
          unfold DRes
          rw [hp2.out]
          have hfin : ((strD s (xs.take q) ++ strD s (xs.drop q)).toList == (strD s xs).toList) = true := by rw [hp3.out]; simp
          have hz1 : (strD s (xs.take q)).size ≤ 8 := okD_size hp1.out
          have hz2 : (strD s (xs.drop q)).size ≤ 8 := okD_size hp2.out
          go_wp2_with fail
          go_ret
          exact ⟨rfl, HB5.out⟩

set_option linter.unusedVariables false
set_option maxRecDepth 100000 in
theorem lifted (os : Os) (started : os.Started) (H : Type) (enc : TypeId × Value → H) :
    ReturnsInHanded {} Try.checked os 6 .any (Rows.fnApplyPartsSpec.pre6 enc Try.prog Try.f6 Rows.fnApplyPartsRow.domain false) (Rows.fnApplyPartsSpec.post enc Try.prog Try.f6 false true false false) := by
  refine returnsInHanded_of_change (C := Try.checked) Try.own started (by kernel_rfl) Try.func6
    (ChangeSpec.witness6 (enc := enc) (C := Try.checked) false ⟨#[], #[.slice none 0 0, .slice none 0 0], []⟩ 8 (by kernel_rfl) (by kernel_rfl) (by kernel_rfl) (by kernel_rfl)) ?_
  intro W base args ds gs before hval0 hW hcnd _
  have hval : ∀ (j : Nat) t v, Try.f6.params[j]? = some t → args[j]? = some v → Value.okWide Try.prog W .any base t v := hval0
  have hW' := hW
  obtain ⟨p, q, hA0, hV, rfl, hfz, hnd⟩ := hW
  have hA : DataW.TrodAll enc Try.prog W 0 (fun _ => true) true Try.f6.params.toList args.toList ds p := hA0
  rw [Try.params6] at hA hval
  obtain ⟨v0, vs0, d0, ds0, p0, q0, hargs, rfl, rfl, h0, r0⟩ := trodAll_cons hA
  obtain ⟨v1, vs1, d1, ds1, p1, q1, rfl, rfl, rfl, h1, r1⟩ := trodAll_cons r0
  obtain ⟨rfl, rfl, rfl⟩ := trodAll_nil r1
  obtain rfl : args = #[v0, v1] := by cases args; simp_all
  obtain ⟨rfl, rfl⟩ := trodVars_none hV
  have k0 := h0
  have lt0 : ∀ x ∈ p0, x.block < W.heap.size := by obtain ⟨m, hm⟩ := k0; exact DataW.trod_lt m _ _ _ hm
  obtain ⟨a0, len0, cap0, rfl⟩ := okWide_slice Try.underlying27 (hval 0 27 v0 rfl rfl)
  obtain ⟨z0, w0⟩ := open_row (k := .u8) Try.underlying27 Try.underlying5 (by kernel_rfl) h0 (fun _ => rfl)
  have k1 := h1
  have lt1 : ∀ x ∈ p1, x.block < W.heap.size := by obtain ⟨m, hm⟩ := k1; exact DataW.trod_lt m _ _ _ hm
  obtain ⟨a1, len1, cap1, rfl⟩ := okWide_slice Try.underlying27 (hval 1 27 v1 rfl rfl)
  obtain ⟨z1, w1⟩ := open_row (k := .u8) Try.underlying27 Try.underlying5 (by kernel_rfl) h1 (fun _ => rfl)
  clear hA0 hval0
  refine (walk a0 len0 cap0 z0 a1 len1 cap1 z1 W w0 w1).mono fun e W' ⟨he, bel⟩ => ?_
  subst he
  exact ⟨_, rfl, _, _, _, [], _, [], hW', trodAll_mk1 (shut_bool Try.underlying4 _), (trodAll_cons_mk (Below.trod Try.laidOut (by kernel_rfl) (of_decide_eq_true (by kernel_rfl)) k0 bel lt0) (trodAll_cons_mk (Below.trod Try.laidOut (by kernel_rfl) (of_decide_eq_true (by kernel_rfl)) k1 bel lt1) trodAll_mk0)), rfl, bel.frame _, fun h => by cases h⟩

theorem proved : Rows.FnApplyPartsSaid :=
  OpenClaim.holds_of_wide 6 Try.f6 rfl rfl rfl rfl rfl rfl rfl ⟨rfl, rfl, rfl, rfl, rfl⟩ rfl rfl rfl rfl rfl (by kernel_rfl) Try.func6 (by kernel_rfl)
    (of_decide_eq_true (by kernel_rfl)) (by unfold Func.isWrapper; first | (rw [if_pos (by decide +kernel)]; kernel_rfl) | (rw [if_neg (by decide +kernel)]; exact ⟨rfl, rfl⟩))
    (fun os started H enc _ => lifted os started H enc)

#print axioms proved
end Go.Proofs.Ytohlmfhfcgfedaa.fnApplyParts
