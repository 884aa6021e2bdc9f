/-
  For all arguments (there are none): the program's WorldNew returns what the reference's returns, apart from whatever was made before. No condition.
-/
import Derived.Test.YthbipjipibhfoaaWorldB
namespace Go.Proofs.Ythbipjipibhfoaa.fnExactWorldNew
set_option linter.unusedVariables false
set_option linter.unusedSimpArgs false
open Go.ChangeShapes Go.WideShapes Go.ChangeAt Go.RowKit

set_option maxHeartbeats 1600000 in
set_option maxRecDepth 100000 in
theorem walk (w : World) :
    Calls Try.prog 3 #[] w fun e w' => e = .returned (.bool true) ∧ Below w.heap.size w w' := by
  go_enter Try.func3, Try.ntmps3
  go_wp2_with fail
  refine (specNew_any _).mono ?_
  rintro e w1 ⟨⟨T1, tc1, O1, oc1, S1, sc1, N1, nc1⟩, hx1, hb1, rfl⟩
  have HB1 := Lib.hid hb1
  have HX1 := Lib.hid hx1
  have hs1 := hb1.size
  clear hx1 hb1
  rw [show (W0.mk T1 tc1 O1 oc1 S1 sc1 N1 nc1).val = .agg #[.slice T1 0 tc1, .slice O1 0 oc1, .slice S1 3 sc1, .slice N1 0 nc1] from rfl]
  go_wp2_with fail
  refine (implNew_any _).mono ?_
  rintro e w2 ⟨⟨T2, tc2, O2, oc2, S2, sc2, N2, nc2⟩, hy2, hb2, rfl⟩
  have HB2 : Hid (Below w.heap.size w w2) := Lib.hid (bel_step (HB1.out.alloc hs1 _) (Nat.le_refl _) hb2)
  have hs2 : w1.heap.size + 1 ≤ w2.heap.size := by have := hb2.size; simp at this; exact this
  have hl2 : w1.heap.size < w2.heap.size := by omega
  have HX2 : Hid (W0.at_ ⟨T1, tc1, O1, oc1, S1, sc1, N1, nc1⟩ w2 w.heap.size w1.heap.size) := by
    obtain ⟨xs, hx⟩ := HX1.out
    exact ⟨xs, (hx.alloc (Nat.le_refl _) _).below hb2 (by simp)⟩
  have HY2 : Hid (W0.at_ ⟨T2, tc2, O2, oc2, S2, sc2, N2, nc2⟩ w2 w.heap.size w2.heap.size) := by
    obtain ⟨xs, hx⟩ := hy2
    exact ⟨xs, hx.more (by simp; omega) (Nat.le_refl _)⟩
  obtain ⟨hcc2, hcf2⟩ := bcell hb2
  clear hy2 hb2 HX1
  rw [show (W0.mk T2 tc2 O2 oc2 S2 sc2 N2 nc2).val = .agg #[.slice T2 0 tc2, .slice O2 0 oc2, .slice S2 3 sc2, .slice N2 0 nc2] from rfl]
  go_wp2_with fail
  refine (eqWorld_any ⟨T2, tc2, O2, oc2, S2, sc2, N2, nc2⟩ ⟨T1, tc1, O1, oc1, S1, sc1, N1, nc1⟩ _ w.heap.size w2.heap.size w.heap.size w1.heap.size (by simp) (by simp; omega) (by obtain ⟨xs, h⟩ := HY2.out; exact ⟨xs, h.alloc (Nat.le_refl _) _⟩) (by obtain ⟨xs, h⟩ := HX2.out; exact ⟨xs, h.alloc (by omega) _⟩)).mono ?_
  rintro e w3 ⟨rfl, hb3⟩
  have HB3 : Hid (Below w.heap.size w w3) := Lib.hid (bel_step (HB2.out.alloc (by omega) _) (Nat.le_refl _) hb3)
  have hs3 : w2.heap.size + 1 ≤ w3.heap.size := by have := hb3.size; simp at this; exact this
  have hl3 : w2.heap.size < w3.heap.size := by omega
  have hl3' : w1.heap.size < w3.heap.size := by omega
  have hl3'' : w1.heap.size < w2.heap.size + 1 := by omega
  have HX3 : Hid (W0.at_ ⟨T1, tc1, O1, oc1, S1, sc1, N1, nc1⟩ w3 w.heap.size w1.heap.size) := by
    obtain ⟨xs, hx⟩ := HX2.out
    exact ⟨xs, (hx.alloc (by omega) _).below hb3 (by simp; omega)⟩
  have HY3 : Hid (W0.at_ ⟨T2, tc2, O2, oc2, S2, sc2, N2, nc2⟩ w3 w.heap.size w2.heap.size) := by
    obtain ⟨xs, hx⟩ := HY2.out
    exact ⟨xs, (hx.alloc (by omega) _).below hb3 (by simp)⟩
  obtain ⟨hcc3, hcf3⟩ := bcell hb3
  clear hb3 HX2 HY2
  go_wp2_with fail
  refine (markWorld_any ⟨T2, tc2, O2, oc2, S2, sc2, N2, nc2⟩ _ w.heap.size w2.heap.size (by omega) 1 (by omega) HY3.out).mono ?_
  rintro e w4 ⟨rfl, hb4⟩
  have HB4 : Hid (Below w.heap.size w w4) := Lib.hid (bel_step HB3.out (Nat.le_refl _) hb4)
  have hs4 : w3.heap.size ≤ w4.heap.size := hb4.size
  have hl4 : w2.heap.size < w4.heap.size := by omega
  have hl4' : w1.heap.size < w4.heap.size := by omega
  have HX4 : Hid (W0.at_ ⟨T1, tc1, O1, oc1, S1, sc1, N1, nc1⟩ w4 w.heap.size w1.heap.size) := HX3.out.bel hb4 (by omega)
  have HY4 : Hid (W0.at_ ⟨T2, tc2, O2, oc2, S2, sc2, N2, nc2⟩ w4 w.heap.size w2.heap.size) := HY3.out.bel hb4 (by omega)
  obtain ⟨hcc4, hcf4⟩ := bcell hb4
  clear hb4 HX3 HY3
  go_wp2_with fail
  refine (heldWorld_any ⟨T2, tc2, O2, oc2, S2, sc2, N2, nc2⟩ _ w.heap.size w2.heap.size (by omega) 1 (by omega) HY4.out).mono ?_
  rintro e w5 ⟨rfl, hb5⟩
  have HB5 : Hid (Below w.heap.size w w5) := Lib.hid (bel_step HB4.out (Nat.le_refl _) hb5)
  have hs5 : w4.heap.size ≤ w5.heap.size := hb5.size
  have hl5 : w2.heap.size < w5.heap.size := by omega
  have hl5' : w1.heap.size < w5.heap.size := by omega
  have HX5 : Hid (W0.at_ ⟨T1, tc1, O1, oc1, S1, sc1, N1, nc1⟩ w5 w.heap.size w1.heap.size) := HX4.out.bel hb5 (by omega)
  have HY5 : Hid (W0.at_ ⟨T2, tc2, O2, oc2, S2, sc2, N2, nc2⟩ w5 w.heap.size w2.heap.size) := HY4.out.bel hb5 (by omega)
  obtain ⟨hcc5, hcf5⟩ := bcell hb5
  clear hb5 HX4 HY4
  go_wp2_with fail
  refine (implNew_any _).mono ?_
  rintro e w6 ⟨⟨T6, tc6, O6, oc6, S6, sc6, N6, nc6⟩, hy6, hb6, rfl⟩
  have HB6 : Hid (Below w.heap.size w w6) := Lib.hid (bel_step HB5.out (Nat.le_refl _) hb6)
  have hs6 : w5.heap.size ≤ w6.heap.size := hb6.size
  have hl6 : w2.heap.size < w6.heap.size := by omega
  have hl6' : w1.heap.size < w6.heap.size := by omega
  have HX6 : Hid (W0.at_ ⟨T1, tc1, O1, oc1, S1, sc1, N1, nc1⟩ w6 w.heap.size w1.heap.size) := HX5.out.bel hb6 (by omega)
  have HY6 : Hid (W0.at_ ⟨T2, tc2, O2, oc2, S2, sc2, N2, nc2⟩ w6 w.heap.size w2.heap.size) := HY5.out.bel hb6 (by omega)
  have HZ6 : Hid (W0.at_ ⟨T6, tc6, O6, oc6, S6, sc6, N6, nc6⟩ w6 w.heap.size w6.heap.size) := by
    obtain ⟨xs, hx⟩ := hy6
    exact ⟨xs, hx.more (by omega) (Nat.le_refl _)⟩
  obtain ⟨hcc6, hcf6⟩ := bcell hb6
  clear hb6 hy6 HX5 HY5
  rw [show (W0.mk T6 tc6 O6 oc6 S6 sc6 N6 nc6).val = .agg #[.slice T6 0 tc6, .slice O6 0 oc6, .slice S6 3 sc6, .slice N6 0 nc6] from rfl]
  go_wp2_with fail
  refine (eqWorld_any ⟨T6, tc6, O6, oc6, S6, sc6, N6, nc6⟩ ⟨T1, tc1, O1, oc1, S1, sc1, N1, nc1⟩ _ w.heap.size w6.heap.size w.heap.size w1.heap.size (by simp) (by simp; omega) (by obtain ⟨xs, h⟩ := HZ6.out; exact ⟨xs, h.alloc (Nat.le_refl _) _⟩) (by obtain ⟨xs, h⟩ := HX6.out; exact ⟨xs, h.alloc (by omega) _⟩)).mono ?_
  rintro e w7 ⟨rfl, hb7⟩
  have HB7 : Hid (Below w.heap.size w w7) := Lib.hid (bel_step (HB6.out.alloc (by omega) _) (Nat.le_refl _) hb7)
  have hs7 : w6.heap.size + 1 ≤ w7.heap.size := by have := hb7.size; simp at this; exact this
  have hl7 : w2.heap.size < w7.heap.size := by omega
  have hl7' : w2.heap.size < w6.heap.size + 1 := by omega
  have HY7 : Hid (W0.at_ ⟨T2, tc2, O2, oc2, S2, sc2, N2, nc2⟩ w7 w.heap.size w2.heap.size) := by
    obtain ⟨xs, hx⟩ := HY6.out
    exact ⟨xs, (hx.alloc (by omega) _).below hb7 (by simp; omega)⟩
  obtain ⟨hcc7, hcf7⟩ := bcell hb7
  clear hb7 HX6 HY6 HZ6
  go_wp2_with fail
  refine (heldWorld_any ⟨T2, tc2, O2, oc2, S2, sc2, N2, nc2⟩ _ w.heap.size w2.heap.size (by omega) 1 (by omega) HY7.out).mono ?_
  rintro e w8 ⟨rfl, hb8⟩
  have HB8 : Hid (Below w.heap.size w w8) := Lib.hid (bel_step HB7.out (Nat.le_refl _) hb8)
  clear hb8
  go_wp2_with fail
  go_ret
  exact ⟨rfl, HB8.out⟩

set_option linter.unusedVariables false
set_option maxRecDepth 100000 in
theorem lifted (os : Os) (started : os.Started) (H : Type) (enc : TypeId × Value → H) :
    ReturnsInHanded {} Try.checked os 3 .any (Rows.fnExactWorldNewSpec.pre6 enc Try.prog Try.f3 Rows.fnExactWorldNewRow.domain false) (Rows.fnExactWorldNewSpec.post enc Try.prog Try.f3 false true false false) := by
  refine returnsInHanded_of_change (C := Try.checked) Try.own started (by kernel_rfl) Try.func3
    (ChangeSpec.witness6 (enc := enc) (C := Try.checked) false ⟨#[], #[], []⟩ 8 (by kernel_rfl) (by kernel_rfl) (by kernel_rfl) (by kernel_rfl)) ?_
  intro W base args ds gs before hval0 hW hcnd _
  have hval : ∀ (j : Nat) t v, Try.f3.params[j]? = some t → args[j]? = some v → Value.okWide Try.prog W .any base t v := hval0
  have hW' := hW
  obtain ⟨p, q, hA0, hV, rfl, hfz, hnd⟩ := hW
  have hA : DataW.TrodAll enc Try.prog W 0 (fun _ => true) true Try.f3.params.toList args.toList ds p := hA0
  rw [Try.params3] at hA hval
  obtain ⟨hargs0, rfl, rfl⟩ := trodAll_nil hA
  obtain rfl : args = #[] := by cases args; simp_all
  obtain ⟨rfl, rfl⟩ := trodVars_none hV
  clear hA0 hval0
  refine (walk  W ).mono fun e W' ⟨he, bel⟩ => ?_
  subst he
  exact ⟨_, rfl, _, _, _, [], _, [], hW', trodAll_mk1 (shut_bool Try.underlying4 _), trodAll_mk0, rfl, bel.frame _, fun h => by cases h⟩

theorem proved : Rows.FnExactWorldNewSaid :=
  OpenClaim.holds_of_wide 3 Try.f3 rfl rfl rfl rfl rfl rfl rfl ⟨rfl, rfl, rfl, rfl, rfl⟩ rfl rfl rfl rfl rfl (by kernel_rfl) Try.func3 (by kernel_rfl)
    (of_decide_eq_true (by kernel_rfl)) (by unfold Func.isWrapper; first | (rw [if_pos (by decide +kernel)]; kernel_rfl) | (rw [if_neg (by decide +kernel)]; exact ⟨rfl, rfl⟩))
    (fun os started H enc _ => lifted os started H enc)

#print axioms proved
end Go.Proofs.Ythbipjipibhfoaa.fnExactWorldNew
