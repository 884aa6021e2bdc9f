/-
  For every two codes: all prepared shards are blocked, and one committed among them commits. No condition.
-/
import Derived.Test.YtohlmfhfcgfedaaOpen
import Derived.Test.YtohlmfhfcgfedaaTermPlain
import Derived.Test.YtohlmfhfcgfedaaDrawTerm
namespace Go.Proofs.Ytohlmfhfcgfedaa.fnTermAll
open Go.ChangeShapes Go.WideShapes Go.ChangeAt Go.RowKit

set_option maxHeartbeats 800000 in
theorem walk (a0 : Option Addr) (len0 cap0 : Nat) (z0 : List Int) (a1 : Option Addr) (len1 cap1 : Nat) (z1 : List Int) (w : World) (w0 : IsRow .u8 w a0 len0 cap0 z0) (w1 : IsRow .u8 w a1 len1 cap1 z1) :
    Calls Try.prog 12 #[.slice a0 len0 cap0, .slice a1 len1 cap1] w fun e w' => e = .returned (.bool true) ∧ Below w.heap.size w w' := by
  have hn := w0.bd
  have hm := w1.bd
  have HI := Lib.hid w0
  clear w0 w1
  by_cases hbig : 1048576 < len0
  · go_enter Try.func12, Try.ntmps12
    go_wp2
    go_ret
    exact ⟨rfl, Below.refl _ _⟩
  · have hs : len0 ≤ 1048576 := by omega
    clear hbig
    by_cases hbig : 1048576 < len1
    · go_enter Try.func12, Try.ntmps12
      go_wp2
      go_ret
      exact ⟨rfl, Below.refl _ _⟩
    · have hs1 : len1 ≤ 1048576 := by omega
      clear hbig
      go_enter Try.func12, Try.ntmps12
      go_wp2_with fail
      refine (drawTerm_any _ _ _ z0 _ HI.out).mono ?_
      rintro e w1 ⟨v1, rfl, A1, n1, c1, xs, rfl, hn6, hnc, hcm, hI, hb1⟩
      have HX := Lib.hid hI
      have hn1 : n1 ≤ 9223372036854775807 := by omega
      clear hI hcm
      go_wp2_with fail
      refine (implDecide_any _ _ _ xs _ _ _ hn1 HX.out).mono ?_
      rintro e w1' ⟨rfl, rfl⟩
      go_wp2_with fail
      refine (specDecide_any _ _ _ xs _ _ _ hn1 HX.out).mono ?_
      rintro e w1' ⟨rfl, rfl⟩
      have hd : (!(decideI xs == decideI xs)) = false := by simp
      have hd' : (decideI xs == decideI xs) = true := by simp
      obtain ⟨q, hq⟩ : ∃ q : Nat, (len1 : Int) % 2 = (q : Int) := ⟨len1 % 2, by omega⟩
      have hq1 : q ≤ 1 := by omega
      go_wp2_with fail
      simp only [hq]
      clear hq
      go_loopw [9, 10] (fun v i wr => ∃ k : Nat, k ≤ q + 1 ∧ i = .int .i64 k ∧ wr.ownsRow w1.heap.size 3 1 v k ((List.replicate k (1 : Int)).flatMap ci) ∧ Below w1.heap.size w1 wr) (fun _ i _ => (q + 1) - (intOf i).toNat)
      case atStart => exact ⟨0, by omega, rfl, own_nil_lit w1 _ 1, (Below.refl _ _).alloc (Nat.le_refl _) _⟩
      case round =>
        obtain ⟨k, hk, rfl, hown, hbr⟩ := hrel
        have HO := Lib.hid hown
        have hsz := hbr.size
        have HBR := Lib.hid hbr
        clear hown hbr
        by_cases hlt : k < q + 1
        · go_wp2_with (at_builtin; go_must (refine wpList_app Try.elInt (HO.out.alloc _) (rd_new wr [.int .i64 1] _) rfl (by simp [Value.oneCell']) (by unfold maxLen; omega) (by omega) (by simp; omega) rfl rfl rfl rfl ?_); intro v' w4 hown4 hg4)
          go_roundw
          case rel =>
            refine ⟨k + 1, by omega, by go_num, ?_, below_app (HBR.out.alloc hsz _) (Nat.le_refl _) (by simp; omega) (HO.out.alloc _) hg4⟩
            rw [List.replicate_succ', List.flatMap_append]; exact hown4
          case measure => simp [intOf]; omega
        · have hkq : k = q + 1 := by omega
          subst hkq
          have HX2 : Hid (Ints wr w.heap.size w1.heap.size A1 n1 xs) := HX.out.below HBR.out (Nat.le_refl _)
          have hone := ones_blocked (q + 1) (by omega) (by omega)
          have h1e := Lib.hid hone.1
          have h2e := Lib.hid hone.2
          clear hone
          have hbb : Hid (Below w.heap.size w wr) := hb1.trans (HBR.out.mono hb1.size)
          obtain ⟨A2, c2, rfl, hc2, hm2, hr2⟩ := Rd.of_own HO.out
          have HI2 : Hid (Ints wr w1.heap.size wr.heap.size A2 (q + 1) (List.replicate (q + 1) 1)) := ⟨List.length_replicate, hr2⟩
          clear hr2
          have hnq : q + 1 ≤ 9223372036854775807 := by omega
          go_wp2_with fail
          refine (implDecide_any _ _ _ (List.replicate (q + 1) 1) _ _ _ hnq HI2.out).mono ?_
          rintro e w' ⟨he, rfl⟩
          rw [h1e.out] at he
          subst he
          go_wp2_with (at_builtin; go_must (refine wpList_app Try.elInt (HO.out.alloc _) (rd_new wr [.int .i64 2] _) rfl (by simp [Value.oneCell']) (by unfold maxLen; omega) (by omega) (by simp; omega) rfl rfl rfl rfl ?_); intro v' w4 hown4 hg4)
          have hr4 := hown4
          rw [show (List.replicate (q + 1) (1 : Int)).flatMap ci ++ [Value.int .i64 2] = (List.replicate (q + 1) (1 : Int) ++ [2]).flatMap ci from by rw [List.flatMap_append]; rfl] at hr4
          obtain ⟨A3, c3, rfl, hc3, hm3, hr4⟩ := Rd.of_own hr4
          have HI3 : Hid (Ints w4 w1.heap.size w4.heap.size A3 (q + 1 + 1) (List.replicate (q + 1) 1 ++ [2])) := ⟨by simp, hr4⟩
          have HB4 := Lib.hid (below_app (HBR.out.alloc hsz _) (Nat.le_refl _) (by simp; omega) (HO.out.alloc _) hg4)
          have HX4 : Hid (Ints w4 w.heap.size w1.heap.size A1 n1 xs) := HX.out.below HB4.out (Nat.le_refl _)
          have hbb4 : Hid (Below w.heap.size w w4) := hb1.trans (HB4.out.mono hb1.size)
          clear hown4 hg4 hr4 hbb
          have hnq2 : q + 1 + 1 ≤ 9223372036854775807 := by omega
          refine (implDecide_any _ _ _ (List.replicate (q + 1) 1 ++ [2]) _ _ _ hnq2 HI3.out).mono ?_
          rintro e w' ⟨he, rfl⟩
          rw [h2e.out] at he
          subst he
          go_wp2_with (go_at_call 28; refine (hasInt_any _ _ _ xs _ _ _ _ hn1 HX4.out).mono ?_; rintro e w' ⟨rfl, rfl⟩)
          all_goals
            go_ret
            refine ⟨?_, hbb4.out⟩
            first
              | rfl
              | exact ret_bool (decideI_two (by assumption))

set_option linter.unusedVariables false
set_option maxRecDepth 100000 in
theorem lifted (os : Os) (started : os.Started) (H : Type) (enc : TypeId × Value → H) :
    ReturnsInHanded {} Try.checked os 12 .any (Rows.fnTermAllSpec.pre6 enc Try.prog Try.f12 Rows.fnTermAllRow.domain false) (Rows.fnTermAllSpec.post enc Try.prog Try.f12 false true false false) := by
  refine returnsInHanded_of_change (C := Try.checked) Try.own started (by kernel_rfl) Try.func12
    (ChangeSpec.witness6 (enc := enc) (C := Try.checked) false ⟨#[], #[.slice none 0 0, .slice none 0 0], []⟩ 8 (by kernel_rfl) (by kernel_rfl) (by kernel_rfl) (by kernel_rfl)) ?_
  intro W base args ds gs before hval0 hW hcnd _
  have hval : ∀ (j : Nat) t v, Try.f12.params[j]? = some t → args[j]? = some v → Value.okWide Try.prog W .any base t v := hval0
  have hW' := hW
  obtain ⟨p, q, hA0, hV, rfl, hfz, hnd⟩ := hW
  have hA : DataW.TrodAll enc Try.prog W 0 (fun _ => true) true Try.f12.params.toList args.toList ds p := hA0
  rw [Try.params12] at hA hval
  obtain ⟨v0, vs0, d0, ds0, p0, q0, hargs, rfl, rfl, h0, r0⟩ := trodAll_cons hA
  obtain ⟨v1, vs1, d1, ds1, p1, q1, rfl, rfl, rfl, h1, r1⟩ := trodAll_cons r0
  obtain ⟨rfl, rfl, rfl⟩ := trodAll_nil r1
  obtain rfl : args = #[v0, v1] := by cases args; simp_all
  obtain ⟨rfl, rfl⟩ := trodVars_none hV
  have k0 := h0
  have lt0 : ∀ x ∈ p0, x.block < W.heap.size := by obtain ⟨m, hm⟩ := k0; exact DataW.trod_lt m _ _ _ hm
  obtain ⟨a0, len0, cap0, rfl⟩ := okWide_slice Try.underlying27 (hval 0 27 v0 rfl rfl)
  obtain ⟨z0, w0⟩ := open_row (k := .u8) Try.underlying27 Try.underlying5 (by kernel_rfl) h0 (fun _ => rfl)
  have k1 := h1
  have lt1 : ∀ x ∈ p1, x.block < W.heap.size := by obtain ⟨m, hm⟩ := k1; exact DataW.trod_lt m _ _ _ hm
  obtain ⟨a1, len1, cap1, rfl⟩ := okWide_slice Try.underlying27 (hval 1 27 v1 rfl rfl)
  obtain ⟨z1, w1⟩ := open_row (k := .u8) Try.underlying27 Try.underlying5 (by kernel_rfl) h1 (fun _ => rfl)
  clear hA0 hval0
  refine (walk a0 len0 cap0 z0 a1 len1 cap1 z1 W w0 w1).mono fun e W' ⟨he, bel⟩ => ?_
  subst he
  exact ⟨_, rfl, _, _, _, [], _, [], hW', trodAll_mk1 (shut_bool Try.underlying4 _), (trodAll_cons_mk (Below.trod Try.laidOut (by kernel_rfl) (of_decide_eq_true (by kernel_rfl)) k0 bel lt0) (trodAll_cons_mk (Below.trod Try.laidOut (by kernel_rfl) (of_decide_eq_true (by kernel_rfl)) k1 bel lt1) trodAll_mk0)), rfl, bel.frame _, fun h => by cases h⟩

theorem proved : Rows.FnTermAllSaid :=
  OpenClaim.holds_of_wide 12 Try.f12 rfl rfl rfl rfl rfl rfl rfl ⟨rfl, rfl, rfl, rfl, rfl⟩ rfl rfl rfl rfl rfl (by kernel_rfl) Try.func12 (by kernel_rfl)
    (of_decide_eq_true (by kernel_rfl)) (by unfold Func.isWrapper; first | (rw [if_pos (by decide +kernel)]; kernel_rfl) | (rw [if_neg (by decide +kernel)]; exact ⟨rfl, rfl⟩))
    (fun os started H enc _ => lifted os started H enc)

#print axioms proved
end Go.Proofs.Ytohlmfhfcgfedaa.fnTermAll
