/-
  For every code: where drawn updates are performed, each ref reads as the last update of it says, and the refs are valid. No condition.
-/
import Derived.Test.YtfdcoeghomeadaaSame
import Derived.Test.YtfdcoeghomeadaaRefsD
namespace Go.Proofs.Ytfdcoeghomeadaa.fnApplyRefs
open Go.ChangeShapes Go.WideShapes Go.ChangeAt Go.RowKit

theorem last_step {d r : Int} {us : List Upd} {k : Nat} (h : k < us.length) : lastR d r (us.take (k + 1)) = if us[k].ref = r then us[k].new_ else lastR d r (us.take k) := by
  unfold lastR
  rw [List.take_succ_eq_append_getElem h, List.foldl_append]
  rfl

set_option maxHeartbeats 1600000 in
theorem walk (a0 : Option Addr) (len0 cap0 : Nat) (z0 : List Int) (w : World) (w0 : IsRow .u8 w a0 len0 cap0 z0) :
    Calls Try.prog 5 #[.slice a0 len0 cap0] w fun e w' => e = .returned (.bool true) ∧ Below w.heap.size w w' := by
  have hn := w0.bd
  have HI := Lib.hid w0
  clear w0
  by_cases hbig : 1048576 < len0
  · go_enter Try.func5, Try.ntmps5
    go_wp2
    go_ret
    exact ⟨rfl, Below.refl _ _⟩
  · have hs_len0 : len0 ≤ 1048576 := by omega
    clear hbig
    go_enter Try.func5, Try.ntmps5
    go_wp2_with fail
    refine (drawRefsApply_any _ _ _ z0 _ HI.out).mono ?_
    rintro e w1 ⟨A1, n1, c1, xs, B1, m1, d1, us, rfl, hn4, hnc, hcm, hm4, hmd, hdm, hI, hU, hb1⟩
    have HX := Lib.hid hI
    have HU := Lib.hid hU
    have HB1 := Lib.hid hb1
    have hc63 : c1 ≤ 9223372036854775807 := hcm
    have hd63 : d1 ≤ 9223372036854775807 := hdm
    clear hI hU hcm hdm hb1
    go_wp2_with fail
    refine (implAns_any A1 B1 n1 c1 m1 d1 xs us _ _ _ _ _ (Nat.le_refl _) (Nat.le_refl _) hn4 hm4 HX.out HU.out).mono ?_
    rintro e w2 ⟨A2, n2, c2, rfl, hn24, hnc2, hc2, hI2, hb2⟩
    have HI2 := Lib.hid hI2
    have HX2 := Lib.hid (HX.out.below hb2 (Nat.le_refl _))
    have HU2 := Lib.hid (HU.out.below hb2 (Nat.le_refl _))
    have HB2 : Hid (Below w.heap.size w w2) := HB1.out.trans (hb2.mono HB1.out.size)
    have hsz2 := hb2.size
    clear hI2 hb2
    go_wp2_with fail
    refine (specAns_any A1 B1 n1 c1 m1 d1 xs us _ _ _ _ _ hsz2 hsz2 hn4 hm4 HX2.out HU2.out).mono ?_
    rintro e w3 ⟨A3, n3, c3, rfl, hn34, hnc3, hc3, hI3, hb3⟩
    have h32 : n3 = n2 := by rw [← hI3.1, ← HI2.out.1]
    subst h32
    have HI3 := Lib.hid hI3
    have HI23 := Lib.hid (HI2.out.below hb3 (Nat.le_refl _))
    have HU3 := Lib.hid (HU2.out.below hb3 hsz2)
    have HB3 : Hid (Below w.heap.size w w3) := HB2.out.trans (hb3.mono HB2.out.size)
    have hsz3 := hb3.size
    have HX3 := Lib.hid (HX2.out.below hb3 hsz2)
    clear hI3 hb3
    have hq2 : (!(applyB xs us == applyB xs us)) = false := by simp
    have hq3 : (applyB xs us == applyB xs us) = true := by simp
    rcases hok : applyB xs us with _ | _
    · simp only [hok] at hq2 hq3
      go_wp2_with fail
      refine (sameInts_any _ _ _ _ _ (applyL xs us) _ _ _ _ _ (by omega) HI23.out HI3.out).mono ?_
      rintro e w4 ⟨rfl, m4, rfl⟩
      go_wp2_with fail
      refine (sameInts_any _ _ _ _ _ (applyL xs us) _ _ _ _ _ (by omega) (HI23.out.drewN m4) (HI3.out.drewN m4)).mono ?_
      rintro e w5 ⟨rfl, m5, rfl⟩
      go_wp2_with fail
      go_ret
      exact ⟨rfl, below_drewN HB3.out (m4 + m5)⟩
    · have har := apply_refs hok
      have HV := Lib.hid har.1
      have HL := Lib.hid har.2
      have hb3' := applyB_and hok
      have hl4 : n1 = 4 := by rw [← HX.out.1]; exact ((refsB_iff xs).1 hb3'.1).1
      have h34 : n3 = 4 := by rw [← HI3.out.1]; exact ((refsB_iff _).1 har.1).1
      clear har hb3'
      subst hl4 h34
      go_wp2_with fail
      refine (sameInts_any _ _ _ _ _ (applyL xs us) _ _ _ _ _ (by omega) HI23.out HI3.out).mono ?_
      rintro e w4 ⟨rfl, m4, rfl⟩
      go_wp2_with fail
      go_loopw [9] (fun i wr => ∃ r : Nat, r ≤ 4 ∧ i = .int .i64 r ∧ ∃ m, wr = w3.drewN m) (fun i _ => 4 - (intOf i).toNat)
      case atStart => exact ⟨0, Nat.zero_le _, rfl, _, rfl⟩
      case round =>
        obtain ⟨r, hr, rfl, m, rfl⟩ := hrel
        by_cases hlt : r < 4
        · obtain ⟨b1, o1, rfl, _, _, hcx⟩ := int_lit HX3.out rfl (r := (r : Int)) (by omega) (by omega)
          have hcx' : w3.cell? ⟨b1, o1 + r, none⟩ = some (.int .i64 (getR xs r)) := hcx
          clear hcx
          go_wp2_with fail
          go_loopw [10, 11] (fun v i wr => ∃ k : Nat, k ≤ m1 ∧ i = .int .i64 k ∧ v = .int .i64 (lastR (getR xs r) r (us.take k)) ∧ ∃ m, wr = w3.drewN m) (fun _ i _ => m1 - (intOf i).toNat)
          case atStart => exact ⟨0, Nat.zero_le _, rfl, rfl, _, rfl⟩
          case round =>
            obtain ⟨k, hk, rfl, rfl, m, rfl⟩ := hrel
            by_cases hlk : k < m1
            · obtain ⟨b, o, hll, rfl, _, hbh, hc0, hc1, hc2⟩ := fl_upd HU3.out hlk
              have hst := Lib.hid (last_step (d := getR xs r) (r := (r : Int)) hll)
              clear hc1
              by_cases he : us[k].ref = (r : Int)
              · have hd : (us[k].ref == (r : Int)) = true := by rw [beq_iff_eq]; exact he
                go_wp2_with fail
                exact ⟨⟨k + 1, by omega, by go_num, by rw [hst.out, if_pos he], _, rfl⟩, by simp [intOf]; omega⟩
              · have hd : (us[k].ref == (r : Int)) = false := by rw [beq_eq_false_iff_ne]; exact he
                go_wp2_with fail
                exact ⟨⟨k + 1, by omega, by go_num, by rw [hst.out, if_neg he], _, rfl⟩, by simp [intOf]; omega⟩
            · have hkn : k = m1 := by omega
              subst hkn
              obtain ⟨b2, o2, rfl, _, _, hcy⟩ := int_lit HI23.out rfl (r := (r : Int)) (by omega) (by omega)
              have hcy' : w3.cell? ⟨b2, o2 + r, none⟩ = some (.int .i64 (lastR (getR xs r) r (us.take k))) := by
                rw [List.take_of_length_le (by rw [HU3.out.1]; exact Nat.le_refl _), ← HL.out r (by omega)]; exact hcy
              clear hcy
              generalize lastR (getR xs r) r (us.take k) = L at *
              have hd : (!(L == L)) = false := by simp
              go_wp2_with fail
              exact ⟨⟨r + 1, by omega, by go_num, _, rfl⟩, by simp [intOf]; omega⟩
        · have hr4 : r = 4 := by omega
          subst hr4
          go_wp2_with fail
          refine (implRefs_any _ _ _ (applyL xs us) _ _ _ (by omega) (HI23.out.drewN m)).mono ?_
          rintro e w5 ⟨rfl, rfl⟩
          rw [HV.out]
          go_wp2_with fail
          go_ret
          exact ⟨rfl, below_drewN HB3.out _⟩

set_option linter.unusedVariables false
set_option maxRecDepth 100000 in
theorem lifted (os : Os) (started : os.Started) (H : Type) (enc : TypeId × Value → H) :
    ReturnsInHanded {} Try.checked os 5 .any (Rows.fnApplyRefsSpec.pre6 enc Try.prog Try.f5 Rows.fnApplyRefsRow.domain false) (Rows.fnApplyRefsSpec.post enc Try.prog Try.f5 false true false false) := by
  refine returnsInHanded_of_change (C := Try.checked) Try.own started (by kernel_rfl) Try.func5
    (ChangeSpec.witness6 (enc := enc) (C := Try.checked) false ⟨#[], #[.slice none 0 0], []⟩ 8 (by kernel_rfl) (by kernel_rfl) (by kernel_rfl) (by kernel_rfl)) ?_
  intro W base args ds gs before hval0 hW hcnd _
  have hval : ∀ (j : Nat) t v, Try.f5.params[j]? = some t → args[j]? = some v → Value.okWide Try.prog W .any base t v := hval0
  have hW' := hW
  obtain ⟨p, q, hA0, hV, rfl, hfz, hnd⟩ := hW
  have hA : DataW.TrodAll enc Try.prog W 0 (fun _ => true) true Try.f5.params.toList args.toList ds p := hA0
  rw [Try.params5] at hA hval
  obtain ⟨v0, vs0, d0, ds0, p0, q0, hargs, rfl, rfl, h0, r0⟩ := trodAll_cons hA
  obtain ⟨rfl, rfl, rfl⟩ := trodAll_nil r0
  obtain rfl : args = #[v0] := by cases args; simp_all
  obtain ⟨rfl, rfl⟩ := trodVars_none hV
  have k0 := h0
  have lt0 : ∀ x ∈ p0, x.block < W.heap.size := by obtain ⟨m, hm⟩ := k0; exact DataW.trod_lt m _ _ _ hm
  obtain ⟨a0, len0, cap0, rfl⟩ := okWide_slice Try.underlying22 (hval 0 22 v0 rfl rfl)
  obtain ⟨z0, w0⟩ := open_row (k := .u8) Try.underlying22 Try.underlying5 (by kernel_rfl) h0 (fun _ => rfl)
  clear hA0 hval0
  refine (walk a0 len0 cap0 z0 W w0).mono fun e W' ⟨he, bel⟩ => ?_
  subst he
  exact ⟨_, rfl, _, _, _, [], _, [], hW', trodAll_mk1 (shut_bool Try.underlying4 _), (trodAll_cons_mk (Below.trod Try.laidOut (by kernel_rfl) (of_decide_eq_true (by kernel_rfl)) k0 bel lt0) trodAll_mk0), rfl, bel.frame _, fun h => by cases h⟩

theorem proved : Rows.FnApplyRefsSaid :=
  OpenClaim.holds_of_wide 5 Try.f5 rfl rfl rfl rfl rfl rfl rfl ⟨rfl, rfl, rfl, rfl, rfl⟩ rfl rfl rfl rfl rfl (by kernel_rfl) Try.func5 (by kernel_rfl)
    (of_decide_eq_true (by kernel_rfl)) (by unfold Func.isWrapper; first | (rw [if_pos (by decide +kernel)]; kernel_rfl) | (rw [if_neg (by decide +kernel)]; exact ⟨rfl, rfl⟩))
    (fun os started H enc _ => lifted os started H enc)

#print axioms proved
end Go.Proofs.Ytfdcoeghomeadaa.fnApplyRefs
