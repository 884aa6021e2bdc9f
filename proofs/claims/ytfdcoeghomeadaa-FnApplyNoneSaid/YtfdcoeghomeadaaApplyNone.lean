/-
  For every code: where drawn updates are not performed, one of them does not fit, and the refs stay as they are. No condition.
-/
import Derived.Test.YtfdcoeghomeadaaSame
import Derived.Test.YtfdcoeghomeadaaRefsL
namespace Go.Proofs.Ytfdcoeghomeadaa.fnApplyNone
open Go.ChangeShapes Go.WideShapes Go.ChangeAt Go.RowKit

theorem fits_step {xs : List Int} {us : List Upd} {k : Nat} (h : k < us.length) : fitsR xs (us.take (k + 1)) = (fitsR xs (us.take k) && decide (getR xs us[k].ref = us[k].old)) := by
  unfold fitsR
  rw [List.take_succ_eq_append_getElem h, List.all_append]
  simp
theorem apply_none {xs : List Int} {us : List Upd} (h : applyB xs us = false) (hn : 0 < (applyL xs us).length) : refsB xs = true ∧ updsB us = true ∧ fitsR xs us = false ∧ applyL xs us = xs := by
  by_cases hb : refsB xs = true ∧ updsB us = true
  · have hf : fitsR xs us = false := by
      unfold applyB at h
      rw [hb.1, hb.2] at h
      simpa using h
    exact ⟨hb.1, hb.2, hf, (applyL_no hb.1 hb.2 hf).1⟩
  · unfold applyL at hn
    rw [if_neg hb] at hn
    simp at hn

set_option maxHeartbeats 1600000 in
theorem walk (a0 : Option Addr) (len0 cap0 : Nat) (z0 : List Int) (w : World) (w0 : IsRow .u8 w a0 len0 cap0 z0) :
    Calls Try.prog 4 #[.slice a0 len0 cap0] w fun e w' => e = .returned (.bool true) ∧ Below w.heap.size w w' := by
  have hn := w0.bd
  have HI := Lib.hid w0
  clear w0
  by_cases hbig : 1048576 < len0
  · go_enter Try.func4, Try.ntmps4
    go_wp2
    go_ret
    exact ⟨rfl, Below.refl _ _⟩
  · have hs_len0 : len0 ≤ 1048576 := by omega
    clear hbig
    go_enter Try.func4, Try.ntmps4
    go_wp2_with fail
    refine (drawRefsApply_any _ _ _ z0 _ HI.out).mono ?_
    rintro e w1 ⟨A1, n1, c1, xs, B1, m1, d1, us, rfl, hn4, hnc, hcm, hm4, hmd, hdm, hI, hU, hb1⟩
    have HX := Lib.hid hI
    have HU := Lib.hid hU
    have HB1 := Lib.hid hb1
    have hc63 : c1 ≤ 9223372036854775807 := hcm
    have hd63 : d1 ≤ 9223372036854775807 := hdm
    clear hI hU hcm hdm hb1
    go_wp2_with fail
    refine (implAns_any A1 B1 n1 c1 m1 d1 xs us _ _ _ _ _ (Nat.le_refl _) (Nat.le_refl _) hn4 hm4 HX.out HU.out).mono ?_
    rintro e w2 ⟨A2, n2, c2, rfl, hn24, hnc2, hc2, hI2, hb2⟩
    have HI2 := Lib.hid hI2
    have HX2 := Lib.hid (HX.out.below hb2 (Nat.le_refl _))
    have HU2 := Lib.hid (HU.out.below hb2 (Nat.le_refl _))
    have HB2 : Hid (Below w.heap.size w w2) := HB1.out.trans (hb2.mono HB1.out.size)
    have hsz2 := hb2.size
    clear hI2 hb2
    go_wp2_with fail
    refine (specAns_any A1 B1 n1 c1 m1 d1 xs us _ _ _ _ _ hsz2 hsz2 hn4 hm4 HX2.out HU2.out).mono ?_
    rintro e w3 ⟨A3, n3, c3, rfl, hn34, hnc3, hc3, hI3, hb3⟩
    have h32 : n3 = n2 := by rw [← hI3.1, ← HI2.out.1]
    subst h32
    have HI3 := Lib.hid hI3
    have HI23 := Lib.hid (HI2.out.below hb3 (Nat.le_refl _))
    have HU3 := Lib.hid (HU2.out.below hb3 hsz2)
    have HB3 : Hid (Below w.heap.size w w3) := HB2.out.trans (hb3.mono HB2.out.size)
    have hsz3 := hb3.size
    have HX3 := Lib.hid (HX2.out.below hb3 hsz2)
    clear hI3 hb3
    have hq2 : (!(applyB xs us == applyB xs us)) = false := by simp
    have hq3 : (applyB xs us == applyB xs us) = true := by simp
    rcases hok : applyB xs us with _ | _
    · simp only [hok] at hq2 hq3
      go_wp2_with fail
      refine (sameInts_any _ _ _ _ _ (applyL xs us) _ _ _ _ _ (by omega) HI23.out HI3.out).mono ?_
      rintro e w4 ⟨rfl, m4, rfl⟩
      by_cases hz : n3 = 0
      · subst hz
        go_wp2_with fail
        refine (sameInts_any _ _ _ _ _ (applyL xs us) _ _ _ _ _ (by omega) (HI23.out.drewN m4) (HI3.out.drewN m4)).mono ?_
        rintro e w5 ⟨rfl, m5, rfl⟩
        go_wp2_with fail
        go_ret
        exact ⟨rfl, below_drewN HB3.out (m4 + m5)⟩
      · have hno := apply_none hok (by rw [HI3.out.1]; omega)
        have HF := Lib.hid hno.2.2.1
        have HE := Lib.hid hno.2.2.2
        have hl4 : n1 = 4 := by rw [← HX.out.1]; exact ((refsB_iff xs).1 hno.1).1
        have hr : ∀ u ∈ us, 0 ≤ u.ref ∧ u.ref ≤ 3 := fun u hu => ((uokB_iff u).1 ((updsB_asc hno.2.1).1.mem u hu).1).1
        have HR := Lib.hid hr
        have hz' : ((n3 : Int) == 0) = false := by rw [beq_eq_false_iff_ne]; omega
        clear hno hr
        subst hl4
        go_wp2_with fail
        go_loopw [9, 10] (fun b i wr => ∃ k : Nat, k ≤ m1 ∧ i = .int .i64 k ∧ b = .bool (!(fitsR xs (us.take k))) ∧ ∃ m, wr = w3.drewN m) (fun _ i _ => m1 - (intOf i).toNat)
        case atStart => exact ⟨0, Nat.zero_le _, rfl, rfl, _, rfl⟩
        case round =>
          obtain ⟨k, hk, rfl, rfl, m, rfl⟩ := hrel
          by_cases hlt : k < m1
          · obtain ⟨b, o, hll, rfl, _, hbh, hc0, hc1, hc2⟩ := fl_upd HU3.out hlt
            have hru := HR.out us[k] (List.getElem_mem hll)
            have hr0 := hru.1
            have hr3 := hru.2
            have hst := Lib.hid (fits_step (xs := xs) hll)
            clear hru hc2
            obtain ⟨b1, o1, rfl, _, _, hcx⟩ := int_lit HX3.out rfl hr0 hr3
            have hcase : getR xs us[k].ref = us[k].old ∨ ¬ getR xs us[k].ref = us[k].old := Decidable.em _
            obtain ⟨q, hq⟩ := Int.eq_ofNat_of_zero_le hr0
            rw [hq] at hcx hc0 hr3 hcase
            have hst' : Hid (fitsR xs (us.take (k + 1)) = (fitsR xs (us.take k) && decide (getR xs (q : Int) = us[k].old))) := by rw [← hq]; exact hst
            have hcx' : w3.cell? ⟨b1, o1 + q, none⟩ = some (.int .i64 (getR xs q)) := hcx
            have hq4 : (q : Int) < 4 := by omega
            clear hq hst hr3 hr0 hcx
            rcases hfk : fitsR xs (us.take k) with _ | _
            · simp only [Bool.not_false]
              go_wp2_with fail
              go_quiet (fail)
              go_wp2_with fail
              have hv : fitsR xs (us.take (k + 1)) = false := by rw [hst'.out, hfk]; rfl
              exact ⟨⟨k + 1, by omega, by go_num, by rw [hv]; rfl, _, rfl⟩, by simp [intOf]; omega⟩
            · simp only [Bool.not_true]
              rcases hcase with hcase | hcase
              · go_wp2_with fail
                go_quiet (fail)
                go_wp2_with fail
                have hv : fitsR xs (us.take (k + 1)) = true := by rw [hst'.out, hfk]; simp [hcase]
                exact ⟨⟨k + 1, by omega, by go_num, by rw [hv]; rfl, _, rfl⟩, by simp [intOf]; omega⟩
              · go_wp2_with fail
                go_quiet (fail)
                go_wp2_with fail
                have hv : fitsR xs (us.take (k + 1)) = false := by rw [hst'.out, hfk]; simp [hcase]
                exact ⟨⟨k + 1, by omega, by go_num, by rw [hv]; simp [hcase], _, rfl⟩, by simp [intOf]; omega⟩
          · have hkn : k = m1 := by omega
            subst hkn
            have hfa : fitsR xs (us.take k) = false := by rw [List.take_of_length_le (by rw [HU3.out.1]; exact Nat.le_refl _)]; exact HF.out
            have h34 : n3 = 4 := by rw [← HI3.out.1, HE.out]; exact HX3.out.1
            subst h34
            have HI23' := Lib.hid HI23.out
            rw [HE.out] at HI23'
            rw [hfa]
            go_wp2_with fail
            refine (sameInts_any _ _ _ _ _ xs _ _ _ _ _ (by omega) (HI23'.out.drewN m) (HX3.out.drewN m)).mono ?_
            rintro e w5 ⟨rfl, m5, rfl⟩
            go_wp2_with fail
            go_ret
            exact ⟨rfl, below_drewN HB3.out _⟩
    · have hq4 : (applyB xs us == applyB xs us) = true := hq3
      go_wp2_with fail
      refine (sameInts_any _ _ _ _ _ (applyL xs us) _ _ _ _ _ (by omega) HI23.out HI3.out).mono ?_
      rintro e w4 ⟨rfl, m4, rfl⟩
      go_wp2_with fail
      refine (sameInts_any _ _ _ _ _ (applyL xs us) _ _ _ _ _ (by omega) (HI23.out.drewN m4) (HI3.out.drewN m4)).mono ?_
      rintro e w5 ⟨rfl, m5, rfl⟩
      go_wp2_with fail
      go_ret
      exact ⟨rfl, below_drewN HB3.out (m4 + m5)⟩

set_option linter.unusedVariables false
set_option maxRecDepth 100000 in
theorem lifted (os : Os) (started : os.Started) (H : Type) (enc : TypeId × Value → H) :
    ReturnsInHanded {} Try.checked os 4 .any (Rows.fnApplyNoneSpec.pre6 enc Try.prog Try.f4 Rows.fnApplyNoneRow.domain false) (Rows.fnApplyNoneSpec.post enc Try.prog Try.f4 false true false false) := by
  refine returnsInHanded_of_change (C := Try.checked) Try.own started (by kernel_rfl) Try.func4
    (ChangeSpec.witness6 (enc := enc) (C := Try.checked) false ⟨#[], #[.slice none 0 0], []⟩ 8 (by kernel_rfl) (by kernel_rfl) (by kernel_rfl) (by kernel_rfl)) ?_
  intro W base args ds gs before hval0 hW hcnd _
  have hval : ∀ (j : Nat) t v, Try.f4.params[j]? = some t → args[j]? = some v → Value.okWide Try.prog W .any base t v := hval0
  have hW' := hW
  obtain ⟨p, q, hA0, hV, rfl, hfz, hnd⟩ := hW
  have hA : DataW.TrodAll enc Try.prog W 0 (fun _ => true) true Try.f4.params.toList args.toList ds p := hA0
  rw [Try.params4] at hA hval
  obtain ⟨v0, vs0, d0, ds0, p0, q0, hargs, rfl, rfl, h0, r0⟩ := trodAll_cons hA
  obtain ⟨rfl, rfl, rfl⟩ := trodAll_nil r0
  obtain rfl : args = #[v0] := by cases args; simp_all
  obtain ⟨rfl, rfl⟩ := trodVars_none hV
  have k0 := h0
  have lt0 : ∀ x ∈ p0, x.block < W.heap.size := by obtain ⟨m, hm⟩ := k0; exact DataW.trod_lt m _ _ _ hm
  obtain ⟨a0, len0, cap0, rfl⟩ := okWide_slice Try.underlying22 (hval 0 22 v0 rfl rfl)
  obtain ⟨z0, w0⟩ := open_row (k := .u8) Try.underlying22 Try.underlying5 (by kernel_rfl) h0 (fun _ => rfl)
  clear hA0 hval0
  refine (walk a0 len0 cap0 z0 W w0).mono fun e W' ⟨he, bel⟩ => ?_
  subst he
  exact ⟨_, rfl, _, _, _, [], _, [], hW', trodAll_mk1 (shut_bool Try.underlying4 _), (trodAll_cons_mk (Below.trod Try.laidOut (by kernel_rfl) (of_decide_eq_true (by kernel_rfl)) k0 bel lt0) trodAll_mk0), rfl, bel.frame _, fun h => by cases h⟩

theorem proved : Rows.FnApplyNoneSaid :=
  OpenClaim.holds_of_wide 4 Try.f4 rfl rfl rfl rfl rfl rfl rfl ⟨rfl, rfl, rfl, rfl, rfl⟩ rfl rfl rfl rfl rfl (by kernel_rfl) Try.func4 (by kernel_rfl)
    (of_decide_eq_true (by kernel_rfl)) (by unfold Func.isWrapper; first | (rw [if_pos (by decide +kernel)]; kernel_rfl) | (rw [if_neg (by decide +kernel)]; exact ⟨rfl, rfl⟩))
    (fun os started H enc _ => lifted os started H enc)

#print axioms proved
end Go.Proofs.Ytfdcoeghomeadaa.fnApplyNone
