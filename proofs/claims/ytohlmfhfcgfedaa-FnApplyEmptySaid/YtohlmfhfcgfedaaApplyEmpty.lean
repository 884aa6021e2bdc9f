/-
  For every code: without operations there is no text, and the size of drawn operations is at least their number. No condition.
-/
import Derived.Test.YtohlmfhfcgfedaaDrawDelta
namespace Go.Proofs.Ytohlmfhfcgfedaa.fnApplyEmpty
open Go.ChangeShapes Go.WideShapes Go.ChangeAt Go.RowKit

set_option maxHeartbeats 1600000 in
theorem walk (a0 : Option Addr) (len0 cap0 : Nat) (z0 : List Int) (w : World) (w0 : IsRow .u8 w a0 len0 cap0 z0) :
    Calls Try.prog 10 #[.slice a0 len0 cap0] w fun e w' => e = .returned (.bool true) ∧ Below w.heap.size w w' := by
  have hn := w0.bd
  have HI := Lib.hid w0
  clear w0
  by_cases hbig : 1048576 < len0
  · go_enter Try.func10, Try.ntmps10
    go_wp2
    go_ret
    exact ⟨rfl, Below.refl _ _⟩
  · have hs_len0 : len0 ≤ 1048576 := by omega
    clear hbig
    go_enter Try.func10, Try.ntmps10
    go_wp2_with fail
    refine (drawDelta_any _ _ _ z0 _ HI.out).mono ?_
    rintro e w1 ⟨s, A1, n1, c1, xs, rfl, hs, hn3, hnc, hcm, hI, htx, hb1⟩
    have HX := Lib.hid hI
    have HT := Lib.hid htx
    have HB1 := Lib.hid hb1
    have hn1 : n1 ≤ 9223372036854775807 := by omega
    have hs1 : s.size ≤ 9223372036854775807 := by omega
    have hc63 : c1 ≤ 9223372036854775807 := by unfold maxLen at hcm; exact hcm
    clear hI hcm htx hb1
    go_wp2_with fail
    refine (implDelta_any s A1 n1 c1 xs _ _ _ (Nat.le_refl _) hs1 hn1 HX.out).mono ?_
    rintro e w2 ⟨rfl, hb2⟩
    have HX2 := Lib.hid (HX.out.below hb2 (Nat.le_refl _))
    have HB2 : Hid (Below w.heap.size w w2) := HB1.out.trans (hb2.mono HB1.out.size)
    have hsz2 := hb2.size
    clear hb2
    unfold DRes
    go_wp2_with fail
    refine (specDelta_any s A1 n1 c1 xs _ _ _ hsz2 hs1 hn1 HX2.out).mono ?_
    rintro e w3 ⟨rfl, hb3⟩
    have HX3 : Hid (Fl co w3 w.heap.size w1.heap.size A1 n1 xs) := HX2.out.below hb3 hsz2
    have HB3 : Hid (Below w.heap.size w w3) := HB2.out.trans (hb3.mono HB2.out.size)
    have hsz3 := Nat.le_trans hsz2 hb3.size
    clear hb3 HX2 HB2
    unfold DRes
    have hq2 : (!((strD s xs).toList == (strD s xs).toList)) = false := by simp
    have hq3 : ((strD s xs).toList == (strD s xs).toList) = true := by simp
    rcases hok : okD s xs with _ | _
    · go_wp2_with fail
      go_ret
      exact ⟨rfl, HB3.out⟩
    · have HOK := Lib.hid hok
      have hnil1 := Lib.hid (okD_nil hok).1
      have hnil2 := Lib.hid (okD_nil hok).2
      go_wp2_with fail
      refine (implDelta_any s (some ⟨w3.heap.size, 0, none⟩) 0 0 [] _ 0 0 (Nat.zero_le _) hs1 (by omega) (Fl.nil _ _ _ _ _)).mono ?_
      rintro e w4 ⟨rfl, hb4⟩
      have HB4 : Hid (Below w.heap.size w w4) := (HB3.out.alloc HB3.out.size _).trans (hb4.mono (by simp; exact Nat.le_succ_of_le HB3.out.size))
      have HX4 : Hid (Fl co w4 w.heap.size w1.heap.size A1 n1 xs) := (HX3.out.alloc hsz3 _).below hb4 (by simp; omega)
      have hsz4 : w1.heap.size ≤ w4.heap.size := Nat.le_trans hsz3 (by have := hb4.size; simp at this; omega)
      clear hb4 HX3 HB3
      unfold DRes
      rw [hnil1.out, hnil2.out]
      go_wp2_with fail
      refine (deltaSize_any (some ⟨w4.heap.size, 0, none⟩) 0 0 [] _ 0 0 (Nat.zero_le _) (by omega) (Fl.nil _ _ _ _ _) (by simp)).mono ?_
      rintro e w5 ⟨rfl, hb5⟩
      have HB5 : Hid (Below w.heap.size w w5) := (HB4.out.alloc HB4.out.size _).trans (hb5.mono (by simp; exact Nat.le_succ_of_le HB4.out.size))
      have HX5 : Hid (Fl co w5 w.heap.size w1.heap.size A1 n1 xs) := (HX4.out.alloc hsz4 _).below hb5 (by simp; omega)
      have hsz5 : w1.heap.size ≤ w5.heap.size := Nat.le_trans hsz4 (by have := hb5.size; simp at this; omega)
      clear hb5 HX4 HB4
      go_wp2_with fail
      refine (deltaSize_any A1 n1 c1 xs _ _ _ hsz5 (by omega) HX5.out (fun o ho => Nat.le_trans (HT.out o ho) (by omega))).mono ?_
      rintro e w6 ⟨rfl, hb6⟩
      have HB6 : Hid (Below w.heap.size w w6) := HB5.out.trans (hb6.mono HB5.out.size)
      clear hb6
      go_wp2_with fail
      go_ret
      exact ⟨ret_bool (by simp; omega), HB6.out⟩

set_option linter.unusedVariables false
set_option maxRecDepth 100000 in
theorem lifted (os : Os) (started : os.Started) (H : Type) (enc : TypeId × Value → H) :
    ReturnsInHanded {} Try.checked os 10 .any (Rows.fnApplyEmptySpec.pre6 enc Try.prog Try.f10 Rows.fnApplyEmptyRow.domain false) (Rows.fnApplyEmptySpec.post enc Try.prog Try.f10 false true false false) := by
  refine returnsInHanded_of_change (C := Try.checked) Try.own started (by kernel_rfl) Try.func10
    (ChangeSpec.witness6 (enc := enc) (C := Try.checked) false ⟨#[], #[.slice none 0 0], []⟩ 8 (by kernel_rfl) (by kernel_rfl) (by kernel_rfl) (by kernel_rfl)) ?_
  intro W base args ds gs before hval0 hW hcnd _
  have hval : ∀ (j : Nat) t v, Try.f10.params[j]? = some t → args[j]? = some v → Value.okWide Try.prog W .any base t v := hval0
  have hW' := hW
  obtain ⟨p, q, hA0, hV, rfl, hfz, hnd⟩ := hW
  have hA : DataW.TrodAll enc Try.prog W 0 (fun _ => true) true Try.f10.params.toList args.toList ds p := hA0
  rw [Try.params10] at hA hval
  obtain ⟨v0, vs0, d0, ds0, p0, q0, hargs, rfl, rfl, h0, r0⟩ := trodAll_cons hA
  obtain ⟨rfl, rfl, rfl⟩ := trodAll_nil r0
  obtain rfl : args = #[v0] := by cases args; simp_all
  obtain ⟨rfl, rfl⟩ := trodVars_none hV
  have k0 := h0
  have lt0 : ∀ x ∈ p0, x.block < W.heap.size := by obtain ⟨m, hm⟩ := k0; exact DataW.trod_lt m _ _ _ hm
  obtain ⟨a0, len0, cap0, rfl⟩ := okWide_slice Try.underlying27 (hval 0 27 v0 rfl rfl)
  obtain ⟨z0, w0⟩ := open_row (k := .u8) Try.underlying27 Try.underlying5 (by kernel_rfl) h0 (fun _ => rfl)
  clear hA0 hval0
  refine (walk a0 len0 cap0 z0 W w0).mono fun e W' ⟨he, bel⟩ => ?_
  subst he
  exact ⟨_, rfl, _, _, _, [], _, [], hW', trodAll_mk1 (shut_bool Try.underlying4 _), (trodAll_cons_mk (Below.trod Try.laidOut (by kernel_rfl) (of_decide_eq_true (by kernel_rfl)) k0 bel lt0) trodAll_mk0), rfl, bel.frame _, fun h => by cases h⟩

theorem proved : Rows.FnApplyEmptySaid :=
  OpenClaim.holds_of_wide 10 Try.f10 rfl rfl rfl rfl rfl rfl rfl ⟨rfl, rfl, rfl, rfl, rfl⟩ rfl rfl rfl rfl rfl (by kernel_rfl) Try.func10 (by kernel_rfl)
    (of_decide_eq_true (by kernel_rfl)) (by unfold Func.isWrapper; first | (rw [if_pos (by decide +kernel)]; kernel_rfl) | (rw [if_neg (by decide +kernel)]; exact ⟨rfl, rfl⟩))
    (fun os started H enc _ => lifted os started H enc)

#print axioms proved
end Go.Proofs.Ytohlmfhfcgfedaa.fnApplyEmpty
