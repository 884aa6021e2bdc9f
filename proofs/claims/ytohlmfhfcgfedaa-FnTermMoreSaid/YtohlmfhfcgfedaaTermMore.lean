/-
  For every two codes: one more state does not change a decision of drawn states, where all agree. No condition.
-/
import Derived.Test.YtohlmfhfcgfedaaOpen
import Derived.Test.YtohlmfhfcgfedaaTermPlain
import Derived.Test.YtohlmfhfcgfedaaDrawTerm
namespace Go.Proofs.Ytohlmfhfcgfedaa.fnTermMore
open Go.ChangeShapes Go.WideShapes Go.ChangeAt Go.RowKit

set_option maxHeartbeats 800000 in
theorem walk (a0 : Option Addr) (len0 cap0 : Nat) (z0 : List Int) (a1 : Option Addr) (len1 cap1 : Nat) (z1 : List Int) (w : World) (w0 : IsRow .u8 w a0 len0 cap0 z0) (w1 : IsRow .u8 w a1 len1 cap1 z1) :
    Calls Try.prog 11 #[.slice a0 len0 cap0, .slice a1 len1 cap1] w fun e w' => e = .returned (.bool true) ∧ Below w.heap.size w w' := by
  have hn := w0.bd
  have hm := w1.bd
  have HI := Lib.hid w0
  clear w0 w1
  by_cases hbig : 1048576 < len0
  · go_enter Try.func11, Try.ntmps11
    go_wp2
    go_ret
    exact ⟨rfl, Below.refl _ _⟩
  · have hs : len0 ≤ 1048576 := by omega
    clear hbig
    by_cases hbig : 1048576 < len1
    · go_enter Try.func11, Try.ntmps11
      go_wp2
      go_ret
      exact ⟨rfl, Below.refl _ _⟩
    · have hs1 : len1 ≤ 1048576 := by omega
      clear hbig
      go_enter Try.func11, Try.ntmps11
      go_wp2_with fail
      refine (drawTerm_any _ _ _ z0 _ HI.out).mono ?_
      rintro e w1 ⟨v1, rfl, A1, n1, c1, xs, rfl, hn6, hnc, hcm, hI, hb1⟩
      have HX := Lib.hid hI
      have hn1 : n1 ≤ 9223372036854775807 := by omega
      clear hI hcm
      go_wp2_with fail
      refine (implDecide_any _ _ _ xs _ _ _ hn1 HX.out).mono ?_
      rintro e w1' ⟨rfl, rfl⟩
      go_wp2_with fail
      refine (specDecide_any _ _ _ xs _ _ _ hn1 HX.out).mono ?_
      rintro e w1' ⟨rfl, rfl⟩
      have hd : (!(decideI xs == decideI xs)) = false := by simp
      have hd' : (decideI xs == decideI xs) = true := by simp
      by_cases h0 : decideI xs = 0
      · have he : (decideI xs == 0) = true := by simp [h0]
        clear h0
        go_wp2
        go_ret
        exact ⟨rfl, hb1⟩
      · have he : (decideI xs == 0) = false := by simp [h0]
        have H0 := Lib.hid h0
        clear h0
        by_cases h3 : 3 ≤ n1
        · go_wp2
          go_ret
          exact ⟨rfl, hb1⟩
        · have hxl := Lib.hid HX.out.1
          have hown0 := Lib.hid (own_nil_lit w1 3 1)
          have hml : (0 : Int) ≤ (len1 : Int) % 4 := Int.emod_nonneg _ (by omega)
          have HM := Lib.hid (fun h => decideI_more (xs := xs) (m := (len1 : Int) % 4) H0.out h)
          have HK := Lib.hid (decideI_kinds xs)
          go_wp2_with (first
            | (at_builtin; refine wpList_app (s := .tmp 38) Try.elInt hown0.out (HX.out.2.alloc (Nat.le_refl _) _) (by rw [flat_len ci 1 ci_len, hxl.out]) (by rw [flat_ci]; simp [Value.oneCell']) (by unfold maxLen; omega) (by omega) (by simp) rfl rfl rfl rfl ?_; intro v2 w2 hown2 hg2; have HO2 := Lib.hid hown2; have HB2 := Lib.hid (below_app ((Below.refl w1.heap.size w1).alloc (Nat.le_refl _) (.cells #[] 3)) (Nat.le_refl _) (by simp) hown0.out hg2); have hsz2 := HB2.out.size; clear hown2 hg2)
            | (at_builtin; refine wpList_app (s := .tmp 40) Try.elInt (HO2.out.alloc _) (rd_new w2 [.int .i64 ((len1 : Int) % 4)] _) rfl (by simp [Value.oneCell']) (by unfold maxLen; omega) (by omega) (by simp; omega) rfl rfl rfl rfl ?_; intro v3 w3 hown3 hg3; have HO3 := Lib.hid hown3; have HB3 := Lib.hid (below_app (HB2.out.alloc hsz2 _) (Nat.le_refl _) (by simp; omega) (HO2.out.alloc _) hg3); clear hown3 hg3)
            | (go_at_call 17; fail))
          have hr3 := HO3.out
          rw [show ([] ++ xs.flatMap ci ++ [Value.int .i64 ((len1 : Int) % 4)]) = (xs ++ [(len1 : Int) % 4]).flatMap ci from by rw [List.flatMap_append]; rfl] at hr3
          rw [Nat.zero_add] at hr3
          obtain ⟨A3, c3, rfl, hc3, hm3, hr3⟩ := Rd.of_own hr3
          have HI3 : Hid (Ints w3 w1.heap.size w3.heap.size A3 (n1 + 1) (xs ++ [(len1 : Int) % 4])) := ⟨by rw [List.length_append, hxl.out]; rfl, hr3⟩
          clear hr3 HO3
          have hn3 : n1 + 1 ≤ 9223372036854775807 := by omega
          refine (implAgree_any _ _ _ (xs ++ [(len1 : Int) % 4]) _ _ _ hn3 HI3.out).mono ?_
          rintro e w' ⟨rfl, rfl⟩
          have hbb : Hid (Below w.heap.size w w3) := hb1.trans (HB3.out.mono hb1.size)
          rcases ha : agreeB (xs ++ [(len1 : Int) % 4]) with _ | _
          · go_wp2_with fail
            go_ret
            exact ⟨rfl, hbb.out⟩
          · have hme := HM.out ha
            have hk2 : decideI xs = 2 ∨ decideI xs = 3 := HK.out.resolve_left H0.out
            clear HM
            rcases hk2 with hk2 | hk2
            all_goals
              rw [hk2] at hme
              go_wp2_with (go_at_call 20; refine (implDecide_any _ _ _ (xs ++ [(len1 : Int) % 4]) _ _ _ hn3 HI3.out).mono ?_; rintro e w' ⟨rfl, rfl⟩)
              go_ret
              exact ⟨rfl, hbb.out⟩

set_option linter.unusedVariables false
set_option maxRecDepth 100000 in
theorem lifted (os : Os) (started : os.Started) (H : Type) (enc : TypeId × Value → H) :
    ReturnsInHanded {} Try.checked os 11 .any (Rows.fnTermMoreSpec.pre6 enc Try.prog Try.f11 Rows.fnTermMoreRow.domain false) (Rows.fnTermMoreSpec.post enc Try.prog Try.f11 false true false false) := by
  refine returnsInHanded_of_change (C := Try.checked) Try.own started (by kernel_rfl) Try.func11
    (ChangeSpec.witness6 (enc := enc) (C := Try.checked) false ⟨#[], #[.slice none 0 0, .slice none 0 0], []⟩ 8 (by kernel_rfl) (by kernel_rfl) (by kernel_rfl) (by kernel_rfl)) ?_
  intro W base args ds gs before hval0 hW hcnd _
  have hval : ∀ (j : Nat) t v, Try.f11.params[j]? = some t → args[j]? = some v → Value.okWide Try.prog W .any base t v := hval0
  have hW' := hW
  obtain ⟨p, q, hA0, hV, rfl, hfz, hnd⟩ := hW
  have hA : DataW.TrodAll enc Try.prog W 0 (fun _ => true) true Try.f11.params.toList args.toList ds p := hA0
  rw [Try.params11] at hA hval
  obtain ⟨v0, vs0, d0, ds0, p0, q0, hargs, rfl, rfl, h0, r0⟩ := trodAll_cons hA
  obtain ⟨v1, vs1, d1, ds1, p1, q1, rfl, rfl, rfl, h1, r1⟩ := trodAll_cons r0
  obtain ⟨rfl, rfl, rfl⟩ := trodAll_nil r1
  obtain rfl : args = #[v0, v1] := by cases args; simp_all
  obtain ⟨rfl, rfl⟩ := trodVars_none hV
  have k0 := h0
  have lt0 : ∀ x ∈ p0, x.block < W.heap.size := by obtain ⟨m, hm⟩ := k0; exact DataW.trod_lt m _ _ _ hm
  obtain ⟨a0, len0, cap0, rfl⟩ := okWide_slice Try.underlying27 (hval 0 27 v0 rfl rfl)
  obtain ⟨z0, w0⟩ := open_row (k := .u8) Try.underlying27 Try.underlying5 (by kernel_rfl) h0 (fun _ => rfl)
  have k1 := h1
  have lt1 : ∀ x ∈ p1, x.block < W.heap.size := by obtain ⟨m, hm⟩ := k1; exact DataW.trod_lt m _ _ _ hm
  obtain ⟨a1, len1, cap1, rfl⟩ := okWide_slice Try.underlying27 (hval 1 27 v1 rfl rfl)
  obtain ⟨z1, w1⟩ := open_row (k := .u8) Try.underlying27 Try.underlying5 (by kernel_rfl) h1 (fun _ => rfl)
  clear hA0 hval0
  refine (walk a0 len0 cap0 z0 a1 len1 cap1 z1 W w0 w1).mono fun e W' ⟨he, bel⟩ => ?_
  subst he
  exact ⟨_, rfl, _, _, _, [], _, [], hW', trodAll_mk1 (shut_bool Try.underlying4 _), (trodAll_cons_mk (Below.trod Try.laidOut (by kernel_rfl) (of_decide_eq_true (by kernel_rfl)) k0 bel lt0) (trodAll_cons_mk (Below.trod Try.laidOut (by kernel_rfl) (of_decide_eq_true (by kernel_rfl)) k1 bel lt1) trodAll_mk0)), rfl, bel.frame _, fun h => by cases h⟩

theorem proved : Rows.FnTermMoreSaid :=
  OpenClaim.holds_of_wide 11 Try.f11 rfl rfl rfl rfl rfl rfl rfl ⟨rfl, rfl, rfl, rfl, rfl⟩ rfl rfl rfl rfl rfl (by kernel_rfl) Try.func11 (by kernel_rfl)
    (of_decide_eq_true (by kernel_rfl)) (by unfold Func.isWrapper; first | (rw [if_pos (by decide +kernel)]; kernel_rfl) | (rw [if_neg (by decide +kernel)]; exact ⟨rfl, rfl⟩))
    (fun os started H enc _ => lifted os started H enc)

#print axioms proved
end Go.Proofs.Ytohlmfhfcgfedaa.fnTermMore
