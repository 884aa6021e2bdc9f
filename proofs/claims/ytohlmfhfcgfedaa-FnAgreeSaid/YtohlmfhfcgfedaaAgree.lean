/-
  For every code: drawn states agree if none contradicts another one; their order does not matter. No condition.
-/
import Derived.Test.YtohlmfhfcgfedaaOpen
import Derived.Test.YtohlmfhfcgfedaaTermPlain
import Derived.Test.YtohlmfhfcgfedaaDrawTerm
namespace Go.Proofs.Ytohlmfhfcgfedaa.fnAgree
open Go.ChangeShapes Go.WideShapes Go.ChangeAt Go.RowKit

set_option maxHeartbeats 800000 in
theorem walk (a0 : Option Addr) (len0 cap0 : Nat) (z0 : List Int) (w : World) (w0 : IsRow .u8 w a0 len0 cap0 z0) :
    Calls Try.prog 8 #[.slice a0 len0 cap0] w fun e w' => e = .returned (.bool true) ∧ Below w.heap.size w w' := by
  have hn := w0.bd
  have HI := Lib.hid w0
  clear w0
  by_cases hbig : 1048576 < len0
  · go_enter Try.func8, Try.ntmps8
    go_wp2
    go_ret
    exact ⟨rfl, Below.refl _ _⟩
  · have hs : len0 ≤ 1048576 := by omega
    clear hbig
    go_enter Try.func8, Try.ntmps8
    go_wp2_with fail
    refine (drawAgree_any _ _ _ z0 _ HI.out).mono ?_
    rintro e w1 ⟨v1, rfl, A1, n1, c1, xs, rfl, hn6, hnc, hcm, hI, hb1⟩
    have HX := Lib.hid hI
    have hn1 : n1 ≤ 9223372036854775807 := by omega
    clear hI hcm
    go_wp2_with fail
    refine (implAgree_any _ _ _ xs _ _ _ hn1 HX.out).mono ?_
    rintro e w1' ⟨rfl, rfl⟩
    go_wp2_with fail
    refine (specAgree_any _ _ _ xs _ _ _ hn1 HX.out).mono ?_
    rintro e w1' ⟨rfl, rfl⟩
    have hd : (!(agreeB xs == agreeB xs)) = false := by simp
    have hd' : (agreeB xs == agreeB xs) = true := by simp
    have hxl := Lib.hid HX.out.1
    go_wp2_with fail
    go_loopw [6, 7] (fun v i wr => ∃ p : Nat, p ≤ n1 ∧ i = .int .i64 ((p : Int) - 1) ∧ wr.ownsRow w1.heap.size 3 1 v (n1 - p) ((xs.reverse.take (n1 - p)).flatMap ci) ∧ Below w1.heap.size w1 wr) (fun _ i _ => (intOf i + 1).toNat)
    case atStart => exact ⟨n1, Nat.le_refl _, rfl, by rw [Nat.sub_self]; exact own_nil_lit w1 _ 1, (Below.refl _ _).alloc (Nat.le_refl _) _⟩
    case round =>
      obtain ⟨p, hp, rfl, hown, hbr⟩ := hrel
      have HO := Lib.hid hown
      have hsz := hbr.size
      have HBR := Lib.hid hbr
      clear hown hbr
      rcases p with _ | p
      · have HI2 : Hid (Ints w1 0 w1.heap.size A1 n1 xs) := HX.out.more (Nat.zero_le _) (Nat.le_refl _)
        have hown := HO.out
        rw [Nat.sub_zero, List.take_of_length_le (by rw [List.length_reverse, hxl.out]; exact Nat.le_refl _)] at hown
        obtain ⟨A2, c2, rfl, hc2, hm2, hr2⟩ := Rd.of_own hown
        have HI3 : Hid (Ints wr w1.heap.size wr.heap.size A2 n1 xs.reverse) := ⟨by rw [List.length_reverse]; exact hxl.out, hr2⟩
        have HX2 : Hid (Ints wr w.heap.size w1.heap.size A1 n1 xs) := HX.out.below HBR.out (Nat.le_refl _)
        clear hown hr2
        have hrv := Lib.hid (agreeB_rev xs)
        have hbb : Hid (Below w.heap.size w wr) := hb1.trans (HBR.out.mono hb1.size)
        rcases h2 : hasB 2 xs with _ | _ <;> rcases h3 : hasB 3 xs with _ | _ <;> rcases h0 : hasB 0 xs with _ | _ <;> rcases h1 : agreeB xs with _ | _
        all_goals first
          | (exfalso; have := agree_bad h1 h2; rw [h3, h0] at this; revert this; decide)
          | (simp only [h1] at hd hd'
             have hrv2 : agreeB xs.reverse = agreeB xs := hrv.out
             rw [h1] at hrv2
             go_wp2_with (first | (go_at_call 28; refine (hasInt_any _ _ _ xs _ _ _ _ hn1 HX2.out).mono ?_; rintro e w' ⟨rfl, rfl⟩) | (go_at_call 17; refine (implAgree_any _ _ _ xs.reverse _ _ _ hn1 HI3.out).mono ?_; rintro e w' ⟨rfl, rfl⟩))
             go_ret
             exact ⟨rfl, hbb.out⟩)
      · rw [show (((p + 1 : Nat) : Int) - 1) = (p : Int) from by omega]
        obtain ⟨b, o, hl, rfl, _, hbh, hc⟩ := (HX.out.below HBR.out (Nat.le_refl _)).int (k := p) (by omega)
        go_wp2_with (at_builtin; go_must (refine wpList_app Try.elInt (HO.out.alloc _) (rd_new wr [.int .i64 xs[p]] _) rfl (by simp [Value.oneCell']) (by unfold maxLen; omega) (by omega) (by simp; omega) rfl rfl rfl rfl ?_); intro v' w4 hown4 hg4)
        go_roundw
        case rel =>
          refine ⟨p, by omega, rfl, ?_, below_app (HBR.out.alloc hsz _) (Nat.le_refl _) (by simp; omega) (HO.out.alloc _) hg4⟩
          have e1 : n1 - (p + 1) + 1 = n1 - p := by omega
          rw [e1] at hown4
          have e2 : (xs.reverse.take (n1 - p)).flatMap ci = (xs.reverse.take (n1 - (p + 1))).flatMap ci ++ [.int .i64 xs[p]] := by
            rw [← e1, List.take_succ_eq_append_getElem (by rw [List.length_reverse, hxl.out]; omega), List.flatMap_append, List.getElem_reverse]
            simp only [hxl.out, List.flatMap_cons, List.flatMap_nil, ci, List.append_nil]
            congr 4; omega
          rw [e2]; exact hown4
        case measure => simp [intOf]

set_option linter.unusedVariables false
set_option maxRecDepth 100000 in
theorem lifted (os : Os) (started : os.Started) (H : Type) (enc : TypeId × Value → H) :
    ReturnsInHanded {} Try.checked os 8 .any (Rows.fnAgreeSpec.pre6 enc Try.prog Try.f8 Rows.fnAgreeRow.domain false) (Rows.fnAgreeSpec.post enc Try.prog Try.f8 false true false false) := by
  refine returnsInHanded_of_change (C := Try.checked) Try.own started (by kernel_rfl) Try.func8
    (ChangeSpec.witness6 (enc := enc) (C := Try.checked) false ⟨#[], #[.slice none 0 0], []⟩ 8 (by kernel_rfl) (by kernel_rfl) (by kernel_rfl) (by kernel_rfl)) ?_
  intro W base args ds gs before hval0 hW hcnd _
  have hval : ∀ (j : Nat) t v, Try.f8.params[j]? = some t → args[j]? = some v → Value.okWide Try.prog W .any base t v := hval0
  have hW' := hW
  obtain ⟨p, q, hA0, hV, rfl, hfz, hnd⟩ := hW
  have hA : DataW.TrodAll enc Try.prog W 0 (fun _ => true) true Try.f8.params.toList args.toList ds p := hA0
  rw [Try.params8] at hA hval
  obtain ⟨v0, vs0, d0, ds0, p0, q0, hargs, rfl, rfl, h0, r0⟩ := trodAll_cons hA
  obtain ⟨rfl, rfl, rfl⟩ := trodAll_nil r0
  obtain rfl : args = #[v0] := by cases args; simp_all
  obtain ⟨rfl, rfl⟩ := trodVars_none hV
  have k0 := h0
  have lt0 : ∀ x ∈ p0, x.block < W.heap.size := by obtain ⟨m, hm⟩ := k0; exact DataW.trod_lt m _ _ _ hm
  obtain ⟨a0, len0, cap0, rfl⟩ := okWide_slice Try.underlying27 (hval 0 27 v0 rfl rfl)
  obtain ⟨z0, w0⟩ := open_row (k := .u8) Try.underlying27 Try.underlying5 (by kernel_rfl) h0 (fun _ => rfl)
  clear hA0 hval0
  refine (walk a0 len0 cap0 z0 W w0).mono fun e W' ⟨he, bel⟩ => ?_
  subst he
  exact ⟨_, rfl, _, _, _, [], _, [], hW', trodAll_mk1 (shut_bool Try.underlying4 _), (trodAll_cons_mk (Below.trod Try.laidOut (by kernel_rfl) (of_decide_eq_true (by kernel_rfl)) k0 bel lt0) trodAll_mk0), rfl, bel.frame _, fun h => by cases h⟩

theorem proved : Rows.FnAgreeSaid :=
  OpenClaim.holds_of_wide 8 Try.f8 rfl rfl rfl rfl rfl rfl rfl ⟨rfl, rfl, rfl, rfl, rfl⟩ rfl rfl rfl rfl rfl (by kernel_rfl) Try.func8 (by kernel_rfl)
    (of_decide_eq_true (by kernel_rfl)) (by unfold Func.isWrapper; first | (rw [if_pos (by decide +kernel)]; kernel_rfl) | (rw [if_neg (by decide +kernel)]; exact ⟨rfl, rfl⟩))
    (fun os started H enc _ => lifted os started H enc)

#print axioms proved
end Go.Proofs.Ytohlmfhfcgfedaa.fnAgree
