/-
  For every code: the decision of the program follows from the drawn states. No condition.
-/
import Derived.Test.YtohlmfhfcgfedaaOpen
import Derived.Test.YtohlmfhfcgfedaaTermB
import Derived.Test.YtohlmfhfcgfedaaDrawTerm
namespace Go.Proofs.Ytohlmfhfcgfedaa.fnTermDecide
open Go.ChangeShapes Go.WideShapes Go.ChangeAt Go.RowKit

set_option maxHeartbeats 800000 in
theorem walk (a0 : Option Addr) (len0 cap0 : Nat) (z0 : List Int) (w : World) (w0 : IsRow .u8 w a0 len0 cap0 z0) :
    Calls Try.prog 13 #[.slice a0 len0 cap0] w fun e w' => e = .returned (.bool true) ∧ Below w.heap.size w w' := by
  have hn := w0.bd
  have HI := Lib.hid w0
  clear w0
  by_cases hbig : 1048576 < len0
  · go_enter Try.func13, Try.ntmps13
    go_wp2
    go_ret
    exact ⟨rfl, Below.refl _ _⟩
  · have hs : len0 ≤ 1048576 := by omega
    clear hbig
    go_enter Try.func13, Try.ntmps13
    go_wp2_with fail
    refine (drawTerm_any _ _ _ z0 _ HI.out).mono ?_
    rintro e w1 ⟨v1, rfl, A1, n1, c1, xs, rfl, hn6, hnc, hcm, hI, hb1⟩
    have HX := Lib.hid hI
    have hn1 : n1 ≤ 9223372036854775807 := by omega
    clear hI hcm
    go_wp2_with fail
    refine (implDecide_any _ _ _ xs _ _ _ hn1 HX.out).mono ?_
    rintro e w1' ⟨rfl, rfl⟩
    go_wp2_with fail
    refine (specDecide_any _ _ _ xs _ _ _ hn1 HX.out).mono ?_
    rintro e w1' ⟨rfl, rfl⟩
    have hd : (!(decideI xs == decideI xs)) = false := by simp
    have hd' : (decideI xs == decideI xs) = true := by simp
    rcases h1 : agreeB xs with _ | _
    · go_wp2_with (go_at_call 15; refine (specAgree_any _ _ _ xs _ _ _ hn1 HX.out).mono ?_; rintro e w' ⟨rfl, rfl⟩)
      go_ret
      exact ⟨rfl, hb1⟩
    · rcases h2 : hasB 2 xs with _ | _ <;> rcases h3 : hasB 3 xs with _ | _ <;> rcases h0 : hasB 0 xs with _ | _
      all_goals
        have HE := Lib.hid ((decideI_yes h1).trans (pickI_eq h2 h3 h0))
        go_wp2_with (first | (go_at_call 15; refine (specAgree_any _ _ _ xs _ _ _ hn1 HX.out).mono ?_; rintro e w' ⟨rfl, rfl⟩) | (go_at_call 28; refine (hasInt_any _ _ _ xs _ _ _ _ hn1 HX.out).mono ?_; rintro e w' ⟨rfl, rfl⟩))
        go_ret
        exact ⟨ret_bool (by rw [HE.out]; rfl), hb1⟩

set_option linter.unusedVariables false
set_option maxRecDepth 100000 in
theorem lifted (os : Os) (started : os.Started) (H : Type) (enc : TypeId × Value → H) :
    ReturnsInHanded {} Try.checked os 13 .any (Rows.fnTermDecideSpec.pre6 enc Try.prog Try.f13 Rows.fnTermDecideRow.domain false) (Rows.fnTermDecideSpec.post enc Try.prog Try.f13 false true false false) := by
  refine returnsInHanded_of_change (C := Try.checked) Try.own started (by kernel_rfl) Try.func13
    (ChangeSpec.witness6 (enc := enc) (C := Try.checked) false ⟨#[], #[.slice none 0 0], []⟩ 8 (by kernel_rfl) (by kernel_rfl) (by kernel_rfl) (by kernel_rfl)) ?_
  intro W base args ds gs before hval0 hW hcnd _
  have hval : ∀ (j : Nat) t v, Try.f13.params[j]? = some t → args[j]? = some v → Value.okWide Try.prog W .any base t v := hval0
  have hW' := hW
  obtain ⟨p, q, hA0, hV, rfl, hfz, hnd⟩ := hW
  have hA : DataW.TrodAll enc Try.prog W 0 (fun _ => true) true Try.f13.params.toList args.toList ds p := hA0
  rw [Try.params13] at hA hval
  obtain ⟨v0, vs0, d0, ds0, p0, q0, hargs, rfl, rfl, h0, r0⟩ := trodAll_cons hA
  obtain ⟨rfl, rfl, rfl⟩ := trodAll_nil r0
  obtain rfl : args = #[v0] := by cases args; simp_all
  obtain ⟨rfl, rfl⟩ := trodVars_none hV
  have k0 := h0
  have lt0 : ∀ x ∈ p0, x.block < W.heap.size := by obtain ⟨m, hm⟩ := k0; exact DataW.trod_lt m _ _ _ hm
  obtain ⟨a0, len0, cap0, rfl⟩ := okWide_slice Try.underlying27 (hval 0 27 v0 rfl rfl)
  obtain ⟨z0, w0⟩ := open_row (k := .u8) Try.underlying27 Try.underlying5 (by kernel_rfl) h0 (fun _ => rfl)
  clear hA0 hval0
  refine (walk a0 len0 cap0 z0 W w0).mono fun e W' ⟨he, bel⟩ => ?_
  subst he
  exact ⟨_, rfl, _, _, _, [], _, [], hW', trodAll_mk1 (shut_bool Try.underlying4 _), (trodAll_cons_mk (Below.trod Try.laidOut (by kernel_rfl) (of_decide_eq_true (by kernel_rfl)) k0 bel lt0) trodAll_mk0), rfl, bel.frame _, fun h => by cases h⟩

theorem proved : Rows.FnTermDecideSaid :=
  OpenClaim.holds_of_wide 13 Try.f13 rfl rfl rfl rfl rfl rfl rfl ⟨rfl, rfl, rfl, rfl, rfl⟩ rfl rfl rfl rfl rfl (by kernel_rfl) Try.func13 (by kernel_rfl)
    (of_decide_eq_true (by kernel_rfl)) (by unfold Func.isWrapper; first | (rw [if_pos (by decide +kernel)]; kernel_rfl) | (rw [if_neg (by decide +kernel)]; exact ⟨rfl, rfl⟩))
    (fun os started H enc _ => lifted os started H enc)

#print axioms proved
end Go.Proofs.Ytohlmfhfcgfedaa.fnTermDecide
