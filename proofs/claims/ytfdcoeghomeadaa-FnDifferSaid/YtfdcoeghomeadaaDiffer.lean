/-
  For every code: the differences of two drawn refs lead from one to the other. No condition.
-/
import Derived.Test.YtfdcoeghomeadaaSame
import Derived.Test.YtfdcoeghomeadaaDifferS
import Derived.Test.YtfdcoeghomeadaaDrawRD
namespace Go.Proofs.Ytfdcoeghomeadaa.fnDiffer
open Go.ChangeShapes Go.WideShapes Go.ChangeAt Go.RowKit

set_option maxHeartbeats 1600000 in
theorem walk (a0 : Option Addr) (len0 cap0 : Nat) (z0 : List Int) (w : World) (w0 : IsRow .u8 w a0 len0 cap0 z0) :
    Calls Try.prog 3 #[.slice a0 len0 cap0] w fun e w' => e = .returned (.bool true) ∧ Below w.heap.size w w' := by
  have hn := w0.bd
  have HI := Lib.hid w0
  clear w0
  by_cases hbig : 1048576 < len0
  · go_enter Try.func3, Try.ntmps3
    go_wp2
    go_ret
    exact ⟨rfl, Below.refl _ _⟩
  · have hs_len0 : len0 ≤ 1048576 := by omega
    clear hbig
    go_enter Try.func3, Try.ntmps3
    go_wp2_with fail
    refine (drawRefsDiffer_any _ _ _ z0 _ HI.out).mono ?_
    rintro e w1 ⟨A1, n1, c1, xs, B1, m1, d1, ys, rfl, hn4, hm4, hX, hY, hb1⟩
    have HX := Lib.hid hX
    have HY := Lib.hid hY
    have HB1 := Lib.hid hb1
    have hn163 : n1 ≤ 9223372036854775807 := by omega
    have hm163 : m1 ≤ 9223372036854775807 := by omega
    clear hX hY hb1
    go_wp2_with fail
    refine (implDiffer_any A1 B1 n1 c1 m1 d1 xs ys _ _ _ _ _ (Nat.le_refl _) (Nat.le_refl _) hn4 hm4 HX.out HY.out).mono ?_
    rintro e w2 ⟨A2, n2, c2, rfl, hn24, hnc2, hc2, hU2, hb2⟩
    have HU2 := Lib.hid hU2
    have HX2 := Lib.hid (HX.out.below hb2 (Nat.le_refl _))
    have HY2 := Lib.hid (HY.out.below hb2 (Nat.le_refl _))
    have HB2 : Hid (Below w.heap.size w w2) := HB1.out.trans (hb2.mono HB1.out.size)
    have hsz2 := hb2.size
    clear hU2 hb2
    go_wp2_with fail
    refine (specDiffer_any A1 B1 n1 c1 m1 d1 xs ys _ _ _ _ _ hsz2 hsz2 hn4 hm4 HX2.out HY2.out).mono ?_
    rintro e w3 ⟨A3, n3, c3, rfl, hn34, hnc3, hc3, hU3, hb3⟩
    have h32 : n3 = n2 := by rw [← hU3.1, ← HU2.out.1]
    subst h32
    have HU3 := Lib.hid hU3
    have HU23 := Lib.hid (HU2.out.below hb3 (Nat.le_refl _))
    have HX3 := Lib.hid (HX2.out.below hb3 hsz2)
    have HY3 := Lib.hid (HY2.out.below hb3 hsz2)
    have HB3 : Hid (Below w.heap.size w w3) := HB2.out.trans (hb3.mono HB2.out.size)
    have hsz3 := hb3.size
    clear hU3 hb3
    go_wp2_with fail
    refine (sameUpdates_any _ _ _ _ _ (differL xs ys) _ _ _ _ _ (by omega) HU23.out HU3.out).mono ?_
    rintro e w4 ⟨rfl, m4, rfl⟩
    go_wp2_with fail
    refine (specRefs_any _ _ _ xs _ _ _ hn163 (HX3.out.drewN m4)).mono ?_
    rintro e w' ⟨rfl, rfl⟩
    rcases hx : refsB xs with _ | _
    · go_wp2_with fail
      refine (sameUpdates_any _ _ _ _ _ (differL xs ys) _ _ _ _ _ (by omega) (HU23.out.drewN m4) (HU3.out.drewN m4)).mono ?_
      rintro e w5 ⟨rfl, m5, rfl⟩
      go_wp2_with fail
      go_ret
      exact ⟨rfl, below_drewN HB3.out (m4 + m5)⟩
    · go_wp2_with fail
      refine (specRefs_any _ _ _ ys _ _ _ hm163 (HY3.out.drewN m4)).mono ?_
      rintro e w' ⟨rfl, rfl⟩
      rcases hy : refsB ys with _ | _
      · go_wp2_with fail
        refine (sameUpdates_any _ _ _ _ _ (differL xs ys) _ _ _ _ _ (by omega) (HU23.out.drewN m4) (HU3.out.drewN m4)).mono ?_
        rintro e w5 ⟨rfl, m5, rfl⟩
        go_wp2_with fail
        go_ret
        exact ⟨rfl, below_drewN HB3.out (m4 + m5)⟩
      · have hda := differ_apply hx hy
        by_cases h0 : n3 = 0
        · have hnil : differL xs ys = [] := List.eq_nil_of_length_eq_zero (by rw [HU3.out.1]; exact h0)
          have hxy := hda.1 hnil
          clear hda hnil hx hy
          subst hxy
          subst h0
          have hnm : m1 = n1 := by rw [← HX.out.1, ← HY.out.1]
          subst hnm
          go_wp2_with fail
          refine (sameInts_any _ _ _ _ _ xs _ _ _ _ _ (by omega) (HX3.out.drewN m4) (HY3.out.drewN m4)).mono ?_
          rintro e w5 ⟨rfl, m5, rfl⟩
          go_wp2_with fail
          go_ret
          exact ⟨rfl, below_drewN HB3.out (m4 + m5)⟩
        · have hne : differL xs ys ≠ [] := by
            intro e
            have := HU3.out.1
            rw [e] at this
            exact h0 this.symm
          have hd0 : ((n3 : Int) == 0) = false := by rw [beq_eq_false_iff_ne]; omega
          have hq := hda.2 hne
          have H1 := Lib.hid hq.1
          have H2 := Lib.hid hq.2.1
          have H3 := Lib.hid hq.2.2
          clear hda hq hne h0 hx hy
          go_wp2_with fail
          refine (implAns_any A1 A2 n1 c1 n3 c2 xs (differL xs ys) (w3.drewN m4) _ _ _ _ (Nat.le_trans hsz2 hsz3) hsz3 hn4 hn24 (HX3.out.drewN m4) (HU23.out.drewN m4)).mono ?_
          rintro e w5 ⟨A5, n5, c5, rfl, hn54, hnc5, hc5, hI5, hb5⟩
          rw [H3.out] at hI5
          rw [H2.out]
          have h5m : n5 = m1 := by rw [← hI5.1, ← HY.out.1]
          subst h5m
          have HI5 := Lib.hid hI5
          have HY5 := Lib.hid ((HY3.out.drewN m4).below hb5 (Nat.le_trans hsz2 hsz3))
          have HU5 := Lib.hid ((HU23.out.drewN m4).below hb5 hsz3)
          have hsz5 := hb5.size
          have HB5 : Hid (Below w.heap.size w w5) := (below_drewN HB3.out m4).trans (hb5.mono HB3.out.size)
          clear hI5 hb5
          go_wp2_with fail
          refine (sameInts_any _ _ _ _ _ ys _ _ _ _ _ (by omega) HI5.out HY5.out).mono ?_
          rintro e w6 ⟨rfl, m6, rfl⟩
          go_wp2_with fail
          refine (implUpds_any _ _ _ (differL xs ys) (w5.drewN m6) _ _ (Nat.le_trans hsz3 hsz5) (by omega) (HU5.out.drewN m6)).mono ?_
          rintro e w7 ⟨rfl, hb7⟩
          rw [H1.out]
          have HB7 := Lib.hid hb7
          clear hb7
          go_wp2_with fail
          go_ret
          exact ⟨rfl, (below_drewN HB5.out m6).trans (HB7.out.mono HB5.out.size)⟩

set_option linter.unusedVariables false
set_option maxRecDepth 100000 in
theorem lifted (os : Os) (started : os.Started) (H : Type) (enc : TypeId × Value → H) :
    ReturnsInHanded {} Try.checked os 3 .any (Rows.fnDifferSpec.pre6 enc Try.prog Try.f3 Rows.fnDifferRow.domain false) (Rows.fnDifferSpec.post enc Try.prog Try.f3 false true false false) := by
  refine returnsInHanded_of_change (C := Try.checked) Try.own started (by kernel_rfl) Try.func3
    (ChangeSpec.witness6 (enc := enc) (C := Try.checked) false ⟨#[], #[.slice none 0 0], []⟩ 8 (by kernel_rfl) (by kernel_rfl) (by kernel_rfl) (by kernel_rfl)) ?_
  intro W base args ds gs before hval0 hW hcnd _
  have hval : ∀ (j : Nat) t v, Try.f3.params[j]? = some t → args[j]? = some v → Value.okWide Try.prog W .any base t v := hval0
  have hW' := hW
  obtain ⟨p, q, hA0, hV, rfl, hfz, hnd⟩ := hW
  have hA : DataW.TrodAll enc Try.prog W 0 (fun _ => true) true Try.f3.params.toList args.toList ds p := hA0
  rw [Try.params3] at hA hval
  obtain ⟨v0, vs0, d0, ds0, p0, q0, hargs, rfl, rfl, h0, r0⟩ := trodAll_cons hA
  obtain ⟨rfl, rfl, rfl⟩ := trodAll_nil r0
  obtain rfl : args = #[v0] := by cases args; simp_all
  obtain ⟨rfl, rfl⟩ := trodVars_none hV
  have k0 := h0
  have lt0 : ∀ x ∈ p0, x.block < W.heap.size := by obtain ⟨m, hm⟩ := k0; exact DataW.trod_lt m _ _ _ hm
  obtain ⟨a0, len0, cap0, rfl⟩ := okWide_slice Try.underlying22 (hval 0 22 v0 rfl rfl)
  obtain ⟨z0, w0⟩ := open_row (k := .u8) Try.underlying22 Try.underlying5 (by kernel_rfl) h0 (fun _ => rfl)
  clear hA0 hval0
  refine (walk a0 len0 cap0 z0 W w0).mono fun e W' ⟨he, bel⟩ => ?_
  subst he
  exact ⟨_, rfl, _, _, _, [], _, [], hW', trodAll_mk1 (shut_bool Try.underlying4 _), (trodAll_cons_mk (Below.trod Try.laidOut (by kernel_rfl) (of_decide_eq_true (by kernel_rfl)) k0 bel lt0) trodAll_mk0), rfl, bel.frame _, fun h => by cases h⟩

theorem proved : Rows.FnDifferSaid :=
  OpenClaim.holds_of_wide 3 Try.f3 rfl rfl rfl rfl rfl rfl rfl ⟨rfl, rfl, rfl, rfl, rfl⟩ rfl rfl rfl rfl rfl (by kernel_rfl) Try.func3 (by kernel_rfl)
    (of_decide_eq_true (by kernel_rfl)) (by unfold Func.isWrapper; first | (rw [if_pos (by decide +kernel)]; kernel_rfl) | (rw [if_neg (by decide +kernel)]; exact ⟨rfl, rfl⟩))
    (fun os started H enc _ => lifted os started H enc)

#print axioms proved
end Go.Proofs.Ytfdcoeghomeadaa.fnDiffer
