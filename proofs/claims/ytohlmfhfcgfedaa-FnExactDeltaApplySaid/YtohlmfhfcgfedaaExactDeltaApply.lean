/-
  For every base and all operations: the program's DeltaApply answers as the reference's does, and the arguments read afterwards as before. No condition.
-/
import Derived.Test.YtohlmfhfcgfedaaOpsX
namespace Go.Proofs.Ytohlmfhfcgfedaa.fnExactDeltaApply
open Go.ChangeShapes Go.WideShapes Go.ChangeAt Go.RowKit
open Go.ChangeMaps (open_string)

set_option maxHeartbeats 800000 in
theorem walk (s0 : ByteArray) (a1 : Option Addr) (len1 cap1 : Nat) (z1 : List OpD) (w : World) (w0 : s0.size ≤ maxLen) (w1 : OpsIn w a1 len1 cap1 z1) :
    Calls Try.prog 7 #[.string s0, .slice a1 len1 cap1] w fun e w' => e = .returned (.bool true) ∧ Below w.heap.size w w' := by
  have hs63 : s0.size ≤ 9223372036854775807 := by unfold maxLen at w0; exact w0
  have HW := Lib.hid w1
  have HI := Lib.hid w1.1
  clear w0 w1
  by_cases hbig : 1048576 < s0.size
  · go_enter Try.func7, Try.ntmps7
    go_wp2
    go_ret
    exact ⟨rfl, Below.refl _ _⟩
  · have hs : s0.size ≤ 1048576 := by omega
    clear hbig
    go_enter Try.func7, Try.ntmps7
    go_wp2_with fail
    refine (szOpS_any _ _ _ z1 _ _ HW.out (by omega) (by omega)).mono ?_
    rintro e w1 ⟨r, hr1, hr2, hr3, hb1, rfl⟩
    have HB1 := Lib.hid hb1
    clear hb1
    by_cases hneg : r < 0
    · go_wp2_with fail
      go_ret
      exact ⟨rfl, HB1.out⟩
    · have hn := hr3 (by omega)
      have hn1 : len1 ≤ 1048576 := by omega
      clear hr3
      go_wp2_with fail
      refine (toOpS_any _ _ _ z1 _ (by omega) ((HI.out.below HB1.out (Nat.le_refl _)).more (Nat.le_refl _) HB1.out.size)).mono ?_
      rintro e w2 ⟨v2, rfl, hown2, hb2⟩
      obtain ⟨A2, c2, rfl, -, -, hr2⟩ := Rd.of_own hown2
      have HI2 : Hid (Fl co w2 w1.heap.size w2.heap.size A2 len1 z1) := ⟨HI.out.1, hr2⟩
      have HB2 : Hid (Below w.heap.size w w2) := HB1.out.trans (hb2.mono HB1.out.size)
      clear hown2 hr2 hb2
      go_wp2_with fail
      refine (specDelta_any _ _ _ _ z1 _ _ _ (Nat.le_refl _) hs63 (by omega) HI2.out).mono ?_
      rintro e w3 ⟨rfl, hb3⟩
      have HB3 : Hid (Below w.heap.size w w3) := HB2.out.trans (hb3.mono HB2.out.size)
      clear hb3 HI2
      unfold DRes
      go_wp2_with fail
      refine (toOpS_any _ _ _ z1 _ (by omega) ((HI.out.below HB3.out (Nat.le_refl _)).more (Nat.le_refl _) HB3.out.size)).mono ?_
      rintro e w4 ⟨v4, rfl, hown4, hb4⟩
      obtain ⟨A4, c4, rfl, -, -, hr4⟩ := Rd.of_own hown4
      have HI4 : Hid (Fl co w4 w3.heap.size w4.heap.size A4 len1 z1) := ⟨HI.out.1, hr4⟩
      have HB4 : Hid (Below w.heap.size w w4) := HB3.out.trans (hb4.mono HB3.out.size)
      clear hown4 hr4 hb4
      go_wp2_with fail
      refine (implDelta_any _ _ _ _ z1 _ _ _ (Nat.le_refl _) hs63 (by omega) HI4.out).mono ?_
      rintro e w5 ⟨rfl, hb5⟩
      have HB5 : Hid (Below w.heap.size w w5) := HB4.out.trans (hb5.mono HB4.out.size)
      have HI5 : Hid (Fl co w5 w3.heap.size w4.heap.size A4 len1 z1) := HI4.out.below hb5 (Nat.le_refl _)
      have hsz5 := hb5.size
      clear hb5 HI4
      unfold DRes
      have hq1 : (!((strD s0 z1).toList == (strD s0 z1).toList)) = false := by simp
      have hq2 : (!(okD s0 z1 == okD s0 z1)) = false := by simp
      go_wp2_with fail
      refine (toOpS_any _ _ _ z1 _ (by omega) ((HI.out.below HB5.out (Nat.le_refl _)).more (Nat.le_refl _) HB5.out.size)).mono ?_
      rintro e w6 ⟨v6, rfl, hown6, hb6⟩
      obtain ⟨A6, c6, rfl, -, -, hr6⟩ := Rd.of_own hown6
      have HI6 : Hid (Fl co w6 w5.heap.size w6.heap.size A6 len1 z1) := ⟨HI.out.1, hr6⟩
      have HB6 : Hid (Below w.heap.size w w6) := HB5.out.trans (hb6.mono HB5.out.size)
      have HI56 : Hid (Fl co w6 w3.heap.size w4.heap.size A4 len1 z1) := HI5.out.below hb6 hsz5
      have hsz6 : w4.heap.size ≤ w6.heap.size := Nat.le_trans hsz5 hb6.size
      clear hown6 hr6 hb6
      go_wp2_with fail
      refine (eqOpS_any _ _ _ _ _ z1 _ _ _ _ _ (by omega) hsz6 (Nat.le_refl _) HI56.out HI6.out).mono ?_
      rintro e w7 ⟨rfl, hb7⟩
      have HB7 : Hid (Below w.heap.size w w7) := HB6.out.trans (hb7.mono HB6.out.size)
      clear hb7
      go_wp2_with fail
      go_ret
      exact ⟨rfl, HB7.out⟩

set_option linter.unusedVariables false
set_option maxRecDepth 100000 in
theorem lifted (os : Os) (started : os.Started) (H : Type) (enc : TypeId × Value → H) :
    ReturnsInHanded {} Try.checked os 7 .any (Rows.fnExactDeltaApplySpec.pre6 enc Try.prog Try.f7 Rows.fnExactDeltaApplyRow.domain false) (Rows.fnExactDeltaApplySpec.post enc Try.prog Try.f7 false true false false) := by
  refine returnsInHanded_of_change (C := Try.checked) Try.own started (by kernel_rfl) Try.func7
    (ChangeSpec.witness6 (enc := enc) (C := Try.checked) false ⟨#[], #[.string ⟨#[]⟩, .slice none 0 0], []⟩ 8 (by kernel_rfl) (by kernel_rfl) (by kernel_rfl) (by kernel_rfl)) ?_
  intro W base args ds gs before hval0 hW hcnd _
  have hval : ∀ (j : Nat) t v, Try.f7.params[j]? = some t → args[j]? = some v → Value.okWide Try.prog W .any base t v := hval0
  have hW' := hW
  obtain ⟨p, q, hA0, hV, rfl, hfz, hnd⟩ := hW
  have hA : DataW.TrodAll enc Try.prog W 0 (fun _ => true) true Try.f7.params.toList args.toList ds p := hA0
  rw [Try.params7] at hA hval
  obtain ⟨v0, vs0, d0, ds0, p0, q0, hargs, rfl, rfl, h0, r0⟩ := trodAll_cons hA
  obtain ⟨v1, vs1, d1, ds1, p1, q1, rfl, rfl, rfl, h1, r1⟩ := trodAll_cons r0
  obtain ⟨rfl, rfl, rfl⟩ := trodAll_nil r1
  obtain rfl : args = #[v0, v1] := by cases args; simp_all
  obtain ⟨rfl, rfl⟩ := trodVars_none hV
  have k0 := h0
  have lt0 : ∀ x ∈ p0, x.block < W.heap.size := by obtain ⟨m, hm⟩ := k0; exact DataW.trod_lt m _ _ _ hm
  obtain ⟨s0, rfl, _, _, w0⟩ := open_string Try.underlying9 (hval 0 9 v0 rfl rfl) h0
  have k1 := h1
  have lt1 : ∀ x ∈ p1, x.block < W.heap.size := by obtain ⟨m, hm⟩ := k1; exact DataW.trod_lt m _ _ _ hm
  obtain ⟨a1, len1, cap1, z1, rfl, w1⟩ := open_ops (hval 1 37 v1 rfl rfl) h1
  clear hA0 hval0
  refine (walk s0 a1 len1 cap1 z1 W w0 w1).mono fun e W' ⟨he, bel⟩ => ?_
  subst he
  exact ⟨_, rfl, _, _, _, [], _, [], hW', trodAll_mk1 (shut_bool Try.underlying4 _), (trodAll_cons_mk (Below.trod Try.laidOut (by kernel_rfl) (of_decide_eq_true (by kernel_rfl)) k0 bel lt0) (trodAll_cons_mk (Below.trod Try.laidOut (by kernel_rfl) (of_decide_eq_true (by kernel_rfl)) k1 bel lt1) trodAll_mk0)), rfl, bel.frame _, fun h => by cases h⟩

theorem proved : Rows.FnExactDeltaApplySaid :=
  OpenClaim.holds_of_wide 7 Try.f7 rfl rfl rfl rfl rfl rfl rfl ⟨rfl, rfl, rfl, rfl, rfl⟩ rfl rfl rfl rfl rfl (by kernel_rfl) Try.func7 (by kernel_rfl)
    (of_decide_eq_true (by kernel_rfl)) (by unfold Func.isWrapper; first | (rw [if_pos (by decide +kernel)]; kernel_rfl) | (rw [if_neg (by decide +kernel)]; exact ⟨rfl, rfl⟩))
    (fun os started H enc _ => lifted os started H enc)

#print axioms proved
end Go.Proofs.Ytohlmfhfcgfedaa.fnExactDeltaApply
