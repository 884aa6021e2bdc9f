/-
  For every code: what is missing from a drawn quarantine is as the reference tells, and is missing still when its area has been promoted. No condition.
-/
import Derived.Test.YtgpjcmplnigmcaaMisD
import Derived.Test.YtgpjcmplnigmcaaM13
namespace Go.Proofs.Ytgpjcmplnigmcaa.fnQuarMissingPromote
set_option linter.unusedVariables false
set_option linter.unusedSimpArgs false
open Go.ChangeShapes Go.WideShapes Go.ChangeAt Go.RowKit

set_option maxRecDepth 100000 in
set_option maxHeartbeats 6400000 in
theorem walk (a0 : Option Addr) (len0 cap0 : Nat) (z0 : List Int) (w : World) (w0 : IsRow .u8 w a0 len0 cap0 z0) :
    Calls Try.prog 4 #[.slice a0 len0 cap0] w fun e w' => e = .returned (.bool true) ∧ Below w.heap.size w w' := by
  have hn := w0.bd
  have HI := Lib.hid w0
  clear w0
  by_cases hbig : 1048576 < len0
  · go_enter Try.func4, Try.ntmps4
    go_wp2
    go_ret
    exact ⟨rfl, Below.refl _ _⟩
  · have hs_len0 : len0 ≤ 1048576 := by omega
    clear hbig
    go_enter Try.func4, Try.ntmps4
    go_wp2_with fail
    refine (drawQMis_any _ _ _ z0 _ HI.out).mono ?_
    rintro e w1 ⟨Q, t, A, n, c, B, m, d, xs, F, k, e9, hm, ha, hQ, hf, hk, hb1, rfl⟩
    obtain rfl : n = Q.main.length := hm.len.1
    obtain rfl : m = Q.areas.length := ha.len.1
    have HB1 := Lib.hid hb1
    obtain ⟨y, hy⟩ : ∃ z, z = w1.heap.size := ⟨_, rfl⟩
    obtain ⟨w2, hw2⟩ : ∃ z, z = w1.alloc (.cells #[.slice A Q.main.length c, .slice B Q.areas.length d] 31) := ⟨_, rfl⟩
    have hb2 : Below w1.heap.size w1 w2 := by rw [hw2]; exact (Below.refl _ _).alloc (Nat.le_refl _) _
    have HV2 : Hid (QV w w2 y Q A c B d) := by rw [hw2, hy]; exact Lib.hid (QV.mk_ hm ha)
    have HF2 := Lib.hid (hf.fresh hb2)
    have HB2 := Lib.hid (bel_tr HB1.out (Nat.le_refl _) hb2)
    clear hm ha hQ hb1 hb2 hf
    go_upto_region 4 with (fail)
    rw [← hw2, ← hy]
    clear hw2 hy
    obtain ⟨yc0, yc1, yl⟩ := HV2.out.cells
    go_wp2_with fail
    refine (implQuaMissing_any Q.main Q.areas t xs A Q.main.length c B Q.areas.length d F k e9 w2 w.heap.size w2.heap.size w.heap.size w2.heap.size (Nat.le_refl _) (Nat.le_refl _) hk HV2.out.2.1 HV2.out.2.2 HF2.out).mono ?_
    rintro e w3 ⟨A3, c3, hr3, hb3, rfl⟩
    obtain ⟨ys, hys⟩ : ∃ z, z = quaMis ⟨Q.main, Q.areas⟩ t xs := ⟨_, rfl⟩
    have HYS := Lib.hid hys
    rw [← hys] at hr3
    rw [← hys]
    have HR3 := Lib.hid (hr3.more (lo' := w.heap.size) HB2.out.size (Nat.le_refl _))
    have HV3 := Lib.hid (HV2.out.fresh hb3)
    have HF3 := Lib.hid (HF2.out.fresh hb3)
    have HB3 := Lib.hid (bel_tr HB2.out (Nat.le_refl _) hb3)
    clear hys hr3 hb3 yc0 yc1 yl
    obtain ⟨yc0, yc1, yl⟩ := HV3.out.cells
    go_wp2_with fail
    refine (specQuaMissing_any Q.main Q.areas t xs A Q.main.length c B Q.areas.length d F k e9 w3 w.heap.size w3.heap.size w.heap.size w3.heap.size (Nat.le_refl _) (Nat.le_refl _) hk HV3.out.2.1 HV3.out.2.2 HF3.out).mono ?_
    rintro e w4 ⟨A4, c4, hr4, hb4, rfl⟩
    have hys := HYS.out
    rw [← hys] at hr4
    rw [← hys]
    have HR4 := Lib.hid (hr4.more (lo' := w.heap.size) HB3.out.size (Nat.le_refl _))
    have HR34 := Lib.hid (HR3.out.fresh hb4)
    have HV4 := Lib.hid (HV3.out.fresh hb4)
    have HF4 := Lib.hid (HF3.out.fresh hb4)
    have HB4 := Lib.hid (bel_tr HB3.out (Nat.le_refl _) hb4)
    have hyl : ys.length ≤ 9223372036854775807 := by have := HR34.out.len; omega
    clear hys hr4 hb4 yc0 yc1 yl HR3 HV3 HF3
    obtain ⟨yc0, yc1, yl⟩ := HV4.out.cells
    go_wp2_with fail
    refine (sameInts_any A3 A4 ys.length c3 c4 ys w4 w.heap.size w4.heap.size w.heap.size w4.heap.size hyl HR34.out.ints HR4.out.ints).mono ?_
    rintro e w5 ⟨rfl, q5, hw5⟩
    have hb5 : Below w4.heap.size w4 w5 := by rw [hw5]; exact bel_drewQ w4 q5
    have HR35 := Lib.hid (HR34.out.fresh hb5)
    have HR45 := Lib.hid (HR4.out.fresh hb5)
    have HV5 := Lib.hid (HV4.out.fresh hb5)
    have HF5 := Lib.hid (HF4.out.fresh hb5)
    have HB5 := Lib.hid (bel_tr HB4.out (Nat.le_refl _) hb5)
    clear hw5 hb5 yc0 yc1 yl HR34 HR4 HV4 HF4
    obtain ⟨yc0, yc1, yl⟩ := HV5.out.cells
    go_wp2_with fail
    refine (specQuaValid_any Q.main Q.areas A Q.main.length c B Q.areas.length d w5 w.heap.size w5.heap.size (Nat.le_refl _) HV5.out.2.1 HV5.out.2.2).mono ?_
    rintro e w6 ⟨rfl, hb6⟩
    have HR36 := Lib.hid (HR35.out.fresh hb6)
    have HR46 := Lib.hid (HR45.out.fresh hb6)
    have HV6 := Lib.hid (HV5.out.fresh hb6)
    have HF6 := Lib.hid (HF5.out.fresh hb6)
    have HB6 := Lib.hid (bel_tr HB5.out (Nat.le_refl _) hb6)
    clear hb6 yc0 yc1 yl HR35 HR45 HV5 HF5
    obtain ⟨yc0, yc1, yl⟩ := HV6.out.cells
    rcases hv : quaB ⟨Q.main, Q.areas⟩ with _ | _
    · clear hv
      go_wp2_with fail
      refine (sameInts_any A3 A4 ys.length c3 c4 ys w6 w.heap.size w6.heap.size w.heap.size w6.heap.size hyl HR36.out.ints HR46.out.ints).mono ?_
      rintro e w7 ⟨rfl, q7, rfl⟩
      have HB7 := Lib.hid (bel_tr HB6.out (Nat.le_refl _) (bel_drewQ w6 q7))
      go_wp2_with fail
      go_ret
      exact ⟨rfl, HB7.out⟩
    · have HQV := Lib.hid hv
      clear hv
      by_cases hk0 : k = 0
      · subst hk0
        go_wp2_with fail
        refine (sameInts_any A3 A4 ys.length c3 c4 ys w6 w.heap.size w6.heap.size w.heap.size w6.heap.size hyl HR36.out.ints HR46.out.ints).mono ?_
        rintro e w7 ⟨rfl, q7, rfl⟩
        have HB7 := Lib.hid (bel_tr HB6.out (Nat.le_refl _) (bel_drewQ w6 q7))
        go_wp2_with fail
        go_ret
        exact ⟨rfl, HB7.out⟩
      · have hki : ((k : Int) == 0) = false := by simp; omega
        have hkn : (k == 0) = false := by simp; omega
        clear hk0
        go_wp2_with fail
        refine (implPromote_any Q.main Q.areas t A Q.main.length c B Q.areas.length d w6 w.heap.size w6.heap.size (Nat.le_refl _) HV6.out.2.1 HV6.out.2.2).mono ?_
        rintro e w7 ⟨Au, nu, cu, Bu, mu, du, hqu, hb7, rfl⟩
        obtain ⟨rfl, rfl, hr1, hr2⟩ := hqu.rd2
        obtain ⟨R, hR⟩ : ∃ Z, Z = quaPro ⟨Q.main, Q.areas⟩ t := ⟨_, rfl⟩
        have HR := Lib.hid hR
        rw [← hR] at hr1 hr2
        rw [← hR]
        have HR1 := Lib.hid (hr1.more (lo' := w.heap.size) HB6.out.size (Nat.le_refl _))
        have HR2 := Lib.hid (hr2.more (lo' := w.heap.size) HB6.out.size (Nat.le_refl _))
        have HR37 := Lib.hid (HR36.out.fresh hb7)
        have HF7 := Lib.hid (HF6.out.fresh hb7)
        have HB7 := Lib.hid (bel_tr HB6.out (Nat.le_refl _) hb7)
        clear hqu hr1 hr2 hR hb7 yc0 yc1 yl HV6 HR36 HR46 HF6
        obtain ⟨u, hu⟩ : ∃ z, z = w7.heap.size := ⟨_, rfl⟩
        obtain ⟨w8, hw8⟩ : ∃ z, z = w7.alloc (.cells #[.slice Au R.main.length cu, .slice Bu R.areas.length du] 31) := ⟨_, rfl⟩
        have hb8 : Below w7.heap.size w7 w8 := by rw [hw8]; exact (Below.refl _ _).alloc (Nat.le_refl _) _
        have HV8 : Hid (QV w w8 u R Au cu Bu du) := by rw [hw8, hu]; exact Lib.hid (QV.mk_ HR1.out HR2.out)
        have HR38 := Lib.hid (HR37.out.fresh hb8)
        have HF8 := Lib.hid (HF7.out.fresh hb8)
        have HB8 := Lib.hid (bel_tr HB7.out (Nat.le_refl _) hb8)
        clear hb8 HR1 HR2 HR37 HF7
        obtain ⟨b, hb⟩ : ∃ b, b = quaProB ⟨Q.main, Q.areas⟩ t := ⟨_, rfl⟩
        have HBB := Lib.hid hb
        rw [← hb]
        clear hb
        go_upto_region 9 with (fail)
        rw [← hw8, ← hu]
        clear hw8 hu
        obtain ⟨uc0, uc1, ul⟩ := HV8.out.cells
        rcases b with _ | _
        · go_wp2_with fail
          go_ret
          exact ⟨rfl, HB8.out⟩
        · have hpl := misL_promote (q := ⟨Q.main, Q.areas⟩) (t := t) HBB.out.symm xs
          have hpi := (quaPro_true (q := ⟨Q.main, Q.areas⟩) (t := t) HBB.out.symm).1
          have hst : stoMis R.main xs = ys := by
            rw [HYS.out]
            rcases hl : linksB xs with _ | _
            · rw [stoMis_no (.inr hl), quaMis_no (.inr hl)]
            · have h2 := hpl.2
              rw [← HR.out] at h2
              rw [stoMis_yes h2 hl, quaMis_yes hpi hl, ← hpl.1, HR.out]
          have HST := Lib.hid hst
          clear hpl hpi hst
          go_wp2_with fail
          refine (implStoMissing_any R.main xs Au R.main.length cu F k e9 w8 w.heap.size w8.heap.size w.heap.size w8.heap.size (Nat.le_refl _) (Nat.le_refl _) hk HV8.out.2.1 HF8.out).mono ?_
          rintro e w9 ⟨A9, c9, hr9, hb9, rfl⟩
          rw [HST.out] at hr9
          rw [HST.out]
          have HR9 := Lib.hid (hr9.more (lo' := w.heap.size) HB8.out.size (Nat.le_refl _))
          have HR39 := Lib.hid (HR38.out.fresh hb9)
          have HB9 := Lib.hid (bel_tr HB8.out (Nat.le_refl _) hb9)
          clear hr9 hb9
          go_wp2_with fail
          refine (sameInts_any A9 A3 ys.length c9 c3 ys w9 w.heap.size w9.heap.size w.heap.size w9.heap.size hyl HR9.out.ints HR39.out.ints).mono ?_
          rintro e wA ⟨rfl, qA, rfl⟩
          have HBA := Lib.hid (bel_tr HB9.out (Nat.le_refl _) (bel_drewQ w9 qA))
          go_wp2_with fail
          go_ret
          exact ⟨rfl, HBA.out⟩

set_option linter.unusedVariables false
set_option maxRecDepth 100000 in
theorem lifted (os : Os) (started : os.Started) (H : Type) (enc : TypeId × Value → H) :
    ReturnsInHanded {} Try.checked os 4 .any (Rows.fnQuarMissingPromoteSpec.pre6 enc Try.prog Try.f4 Rows.fnQuarMissingPromoteRow.domain false) (Rows.fnQuarMissingPromoteSpec.post enc Try.prog Try.f4 false true false false) := by
  refine returnsInHanded_of_change (C := Try.checked) Try.own started (by kernel_rfl) Try.func4
    (ChangeSpec.witness6 (enc := enc) (C := Try.checked) false ⟨#[], #[.slice none 0 0], []⟩ 8 (by kernel_rfl) (by kernel_rfl) (by kernel_rfl) (by kernel_rfl)) ?_
  intro W base args ds gs before hval0 hW hcnd _
  have hval : ∀ (j : Nat) t v, Try.f4.params[j]? = some t → args[j]? = some v → Value.okWide Try.prog W .any base t v := hval0
  have hW' := hW
  obtain ⟨p, q, hA0, hV, rfl, hfz, hnd⟩ := hW
  have hA : DataW.TrodAll enc Try.prog W 0 (fun _ => true) true Try.f4.params.toList args.toList ds p := hA0
  rw [Try.params4] at hA hval
  obtain ⟨v0, vs0, d0, ds0, p0, q0, hargs, rfl, rfl, h0, r0⟩ := trodAll_cons hA
  obtain ⟨rfl, rfl, rfl⟩ := trodAll_nil r0
  obtain rfl : args = #[v0] := by cases args; simp_all
  obtain ⟨rfl, rfl⟩ := trodVars_none hV
  have k0 := h0
  have lt0 : ∀ x ∈ p0, x.block < W.heap.size := by obtain ⟨m, hm⟩ := k0; exact DataW.trod_lt m _ _ _ hm
  obtain ⟨a0, len0, cap0, rfl⟩ := okWide_slice Try.underlying41 (hval 0 41 v0 rfl rfl)
  obtain ⟨z0, w0⟩ := open_row (k := .u8) Try.underlying41 Try.underlying5 (by kernel_rfl) h0 (fun _ => rfl)
  clear hA0 hval0
  refine (walk a0 len0 cap0 z0 W w0).mono fun e W' ⟨he, bel⟩ => ?_
  subst he
  exact ⟨_, rfl, _, _, _, [], _, [], hW', trodAll_mk1 (shut_bool Try.underlying4 _), (trodAll_cons_mk (Below.trod Try.laidOut (by kernel_rfl) (of_decide_eq_true (by kernel_rfl)) k0 bel lt0) trodAll_mk0), rfl, bel.frame _, fun h => by cases h⟩

theorem proved : Rows.FnQuarMissingPromoteSaid :=
  OpenClaim.holds_of_wide 4 Try.f4 rfl rfl rfl rfl rfl rfl rfl ⟨rfl, rfl, rfl, rfl, rfl⟩ rfl rfl rfl rfl rfl (by kernel_rfl) Try.func4 (by kernel_rfl)
    (of_decide_eq_true (by kernel_rfl)) (by unfold Func.isWrapper; first | (rw [if_pos (by decide +kernel)]; kernel_rfl) | (rw [if_neg (by decide +kernel)]; exact ⟨rfl, rfl⟩))
    (fun os started H enc _ => lifted os started H enc)

#print axioms proved
end Go.Proofs.Ytgpjcmplnigmcaa.fnQuarMissingPromote
