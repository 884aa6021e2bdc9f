/-
  For every code: where drawn updates were performed, the differences are these updates. No condition.
-/
import Derived.Test.YtfdcoeghomeadaaSame
import Derived.Test.YtfdcoeghomeadaaDifferI
namespace Go.Proofs.Ytfdcoeghomeadaa.fnDifferApply
open Go.ChangeShapes Go.WideShapes Go.ChangeAt Go.RowKit

set_option maxHeartbeats 1600000 in
theorem walk (a0 : Option Addr) (len0 cap0 : Nat) (z0 : List Int) (w : World) (w0 : IsRow .u8 w a0 len0 cap0 z0) :
    Calls Try.prog 10 #[.slice a0 len0 cap0] w fun e w' => e = .returned (.bool true) ∧ Below w.heap.size w w' := by
  have hn := w0.bd
  have HI := Lib.hid w0
  clear w0
  by_cases hbig : 1048576 < len0
  · go_enter Try.func10, Try.ntmps10
    go_wp2
    go_ret
    exact ⟨rfl, Below.refl _ _⟩
  · have hs_len0 : len0 ≤ 1048576 := by omega
    clear hbig
    go_enter Try.func10, Try.ntmps10
    go_wp2_with fail
    refine (drawRefsApply_any _ _ _ z0 _ HI.out).mono ?_
    rintro e w1 ⟨A1, n1, c1, xs, B1, m1, d1, us, rfl, hn4, hnc, hcm, hm4, hmd, hdm, hI, hU, hb1⟩
    have HX := Lib.hid hI
    have HU := Lib.hid hU
    have HB1 := Lib.hid hb1
    have hc63 : c1 ≤ 9223372036854775807 := hcm
    have hd63 : d1 ≤ 9223372036854775807 := hdm
    clear hI hU hcm hdm hb1
    go_wp2_with fail
    refine (implAns_any A1 B1 n1 c1 m1 d1 xs us _ _ _ _ _ (Nat.le_refl _) (Nat.le_refl _) hn4 hm4 HX.out HU.out).mono ?_
    rintro e w2 ⟨A2, n2, c2, rfl, hn24, hnc2, hc2, hI2, hb2⟩
    have HI2 := Lib.hid hI2
    have HX2 := Lib.hid (HX.out.below hb2 (Nat.le_refl _))
    have HU2 := Lib.hid (HU.out.below hb2 (Nat.le_refl _))
    have HB2 : Hid (Below w.heap.size w w2) := HB1.out.trans (hb2.mono HB1.out.size)
    have hsz2 := hb2.size
    clear hI2 hb2
    go_wp2_with fail
    refine (specAns_any A1 B1 n1 c1 m1 d1 xs us _ _ _ _ _ hsz2 hsz2 hn4 hm4 HX2.out HU2.out).mono ?_
    rintro e w3 ⟨A3, n3, c3, rfl, hn34, hnc3, hc3, hI3, hb3⟩
    have h32 : n3 = n2 := by rw [← hI3.1, ← HI2.out.1]
    subst h32
    have HI3 := Lib.hid hI3
    have HI23 := Lib.hid (HI2.out.below hb3 (Nat.le_refl _))
    have HU3 := Lib.hid (HU2.out.below hb3 hsz2)
    have HB3 : Hid (Below w.heap.size w w3) := HB2.out.trans (hb3.mono HB2.out.size)
    have hsz3 := hb3.size
    have hb3' := Lib.hid hb3
    clear hI3 hb3
    have hq2 : (!(applyB xs us == applyB xs us)) = false := by simp
    have hq3 : (applyB xs us == applyB xs us) = true := by simp
    rcases hok : applyB xs us with _ | _
    · simp only [hok] at hq2 hq3
      go_wp2_with fail
      refine (sameInts_any _ _ _ _ _ (applyL xs us) _ _ _ _ _ (by omega) HI23.out HI3.out).mono ?_
      rintro e w4 ⟨rfl, m4, rfl⟩
      go_wp2_with fail
      refine (sameInts_any _ _ _ _ _ (applyL xs us) _ _ _ _ _ (by omega) (HI23.out.drewN m4) (HI3.out.drewN m4)).mono ?_
      rintro e w5 ⟨rfl, m5, rfl⟩
      go_wp2_with fail
      go_ret
      exact ⟨rfl, below_drewN HB3.out (m4 + m5)⟩
    · have htw := Lib.hid (apply_differ hok)
      go_wp2_with fail
      refine (sameInts_any _ _ _ _ _ (applyL xs us) _ _ _ _ _ (by omega) HI23.out HI3.out).mono ?_
      rintro e w4 ⟨rfl, m4, rfl⟩
      go_wp2_with fail
      refine (implDiffer_any A1 A2 n1 c1 n3 c2 xs (applyL xs us) (w3.drewN m4) _ _ _ _ (Nat.le_trans hsz2 hsz3) hsz3 hn4 hn34 ((HX2.out.below hb3'.out hsz2).drewN m4) (HI23.out.drewN m4)).mono ?_
      rintro e w5 ⟨B5, n5, d5, rfl, hn54, hnd5, hd5, hU5, hb5⟩
      rw [htw.out] at hU5
      have h5m : n5 = m1 := by rw [← hU5.1, ← HU3.out.1]
      subst h5m
      have HU5 := Lib.hid hU5
      have HU35 := Lib.hid ((HU3.out.drewN m4).below hb5 (Nat.le_trans hsz2 hsz3))
      have HB5 : Hid (Below w.heap.size w w5) := (below_drewN HB3.out m4).trans (hb5.mono HB3.out.size)
      clear hU5 hb5
      go_wp2_with fail
      refine (sameUpdates_any _ _ _ _ _ us _ _ _ _ _ (by omega) HU5.out HU35.out).mono ?_
      rintro e w6 ⟨rfl, m6, rfl⟩
      go_wp2_with fail
      go_ret
      exact ⟨rfl, below_drewN HB5.out m6⟩

set_option linter.unusedVariables false
set_option maxRecDepth 100000 in
theorem lifted (os : Os) (started : os.Started) (H : Type) (enc : TypeId × Value → H) :
    ReturnsInHanded {} Try.checked os 10 .any (Rows.fnDifferApplySpec.pre6 enc Try.prog Try.f10 Rows.fnDifferApplyRow.domain false) (Rows.fnDifferApplySpec.post enc Try.prog Try.f10 false true false false) := by
  refine returnsInHanded_of_change (C := Try.checked) Try.own started (by kernel_rfl) Try.func10
    (ChangeSpec.witness6 (enc := enc) (C := Try.checked) false ⟨#[], #[.slice none 0 0], []⟩ 8 (by kernel_rfl) (by kernel_rfl) (by kernel_rfl) (by kernel_rfl)) ?_
  intro W base args ds gs before hval0 hW hcnd _
  have hval : ∀ (j : Nat) t v, Try.f10.params[j]? = some t → args[j]? = some v → Value.okWide Try.prog W .any base t v := hval0
  have hW' := hW
  obtain ⟨p, q, hA0, hV, rfl, hfz, hnd⟩ := hW
  have hA : DataW.TrodAll enc Try.prog W 0 (fun _ => true) true Try.f10.params.toList args.toList ds p := hA0
  rw [Try.params10] at hA hval
  obtain ⟨v0, vs0, d0, ds0, p0, q0, hargs, rfl, rfl, h0, r0⟩ := trodAll_cons hA
  obtain ⟨rfl, rfl, rfl⟩ := trodAll_nil r0
  obtain rfl : args = #[v0] := by cases args; simp_all
  obtain ⟨rfl, rfl⟩ := trodVars_none hV
  have k0 := h0
  have lt0 : ∀ x ∈ p0, x.block < W.heap.size := by obtain ⟨m, hm⟩ := k0; exact DataW.trod_lt m _ _ _ hm
  obtain ⟨a0, len0, cap0, rfl⟩ := okWide_slice Try.underlying22 (hval 0 22 v0 rfl rfl)
  obtain ⟨z0, w0⟩ := open_row (k := .u8) Try.underlying22 Try.underlying5 (by kernel_rfl) h0 (fun _ => rfl)
  clear hA0 hval0
  refine (walk a0 len0 cap0 z0 W w0).mono fun e W' ⟨he, bel⟩ => ?_
  subst he
  exact ⟨_, rfl, _, _, _, [], _, [], hW', trodAll_mk1 (shut_bool Try.underlying4 _), (trodAll_cons_mk (Below.trod Try.laidOut (by kernel_rfl) (of_decide_eq_true (by kernel_rfl)) k0 bel lt0) trodAll_mk0), rfl, bel.frame _, fun h => by cases h⟩

theorem proved : Rows.FnDifferApplySaid :=
  OpenClaim.holds_of_wide 10 Try.f10 rfl rfl rfl rfl rfl rfl rfl ⟨rfl, rfl, rfl, rfl, rfl⟩ rfl rfl rfl rfl rfl (by kernel_rfl) Try.func10 (by kernel_rfl)
    (of_decide_eq_true (by kernel_rfl)) (by unfold Func.isWrapper; first | (rw [if_pos (by decide +kernel)]; kernel_rfl) | (rw [if_neg (by decide +kernel)]; exact ⟨rfl, rfl⟩))
    (fun os started H enc _ => lifted os started H enc)

#print axioms proved
end Go.Proofs.Ytfdcoeghomeadaa.fnDifferApply
