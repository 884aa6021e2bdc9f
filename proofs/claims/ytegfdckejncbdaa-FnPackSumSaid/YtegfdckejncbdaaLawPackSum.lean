/-
  For every code: exactly packs with objects have a sum. No condition.
-/
import Derived.Test.YtegfdckejncbdaaDrawU
import Derived.Test.YtegfdckejncbdaaPackSum
namespace Go.Proofs.Ytegfdckejncbdaa.fnPackSum
set_option linter.unusedVariables false
set_option linter.unusedSimpArgs false
open Go.ChangeShapes Go.WideShapes Go.ChangeAt Go.RowKit

theorem sum_nn (ps : List PED) : (packB ps = true → 0 ≤ packSum ps ∧ packSum ps < 991) ∧ (packB ps = false → packSum ps = -1) := by
  constructor
  · intro h
    unfold packSum
    rw [if_pos h]
    have h1 := sumP_bd (packL ps) ps.length (fun x hx => packL_obj x hx) (by omega) (by have := (packB_and h).1; omega)
    omega
  · intro h
    unfold packSum
    rw [h]; rfl

set_option maxHeartbeats 1600000 in
set_option maxRecDepth 100000 in
theorem walk (a0 : Option Addr) (len0 cap0 : Nat) (z0 : List Int) (w : World) (w0 : IsRow .u8 w a0 len0 cap0 z0) :
    Calls Try.prog 7 #[.slice a0 len0 cap0] w fun e w' => e = .returned (.bool true) ∧ Below w.heap.size w w' := by
  have hn := w0.bd
  have HI := Lib.hid w0
  clear w0
  by_cases hbig : 1048576 < len0
  · go_enter Try.func7, Try.ntmps7
    go_wp2
    go_ret
    exact ⟨rfl, Below.refl _ _⟩
  · have hs_len0 : len0 ≤ 1048576 := by omega
    clear hbig
    go_enter Try.func7, Try.ntmps7
    go_wp2_with fail
    refine (drawPackSum_any _ _ _ z0 _ HI.out).mono ?_
    rintro e w1 ⟨ps, A, n, c, hr, hn17, hsz, hb1, rfl⟩
    have HR := Lib.hid hr
    have HZ := Lib.hid hsz
    have HB1 := Lib.hid hb1
    obtain ⟨sm, hsm⟩ : ∃ sm, sm = packSum ps := ⟨_, rfl⟩
    obtain ⟨ok, hok⟩ : ∃ ok, ok = packB ps := ⟨_, rfl⟩
    have h1 : (ok = true → 0 ≤ sm ∧ sm < 991) ∧ (ok = false → sm = -1) := by rw [hsm, hok]; exact sum_nn ps
    have HSM := Lib.hid hsm
    have HOK := Lib.hid hok
    have hq : (sm != sm) = false := by simp
    clear hr hsz hb1 hsm hok
    go_wp2_with fail
    refine (implSum_any ps A n c _ _ _ (Nat.le_refl _) (by omega) HZ.out HR.out).mono ?_
    rintro e w2 ⟨rfl, hb2⟩
    have HB2 := Lib.hid (bel_tr HB1.out (Nat.le_refl _) hb2)
    have HR2 := Lib.hid (HR.out.below hb2 (Nat.le_refl _))
    have hs2 := hb2.size
    rw [← HSM.out]
    clear hb2
    go_wp2_with fail
    refine (specSum_any ps A n c _ _ _ hs2 (by omega) HZ.out HR2.out).mono ?_
    rintro e w3 ⟨rfl, hb3⟩
    have HB3 := Lib.hid (bel_tr HB2.out (Nat.le_refl _) hb3)
    have HR3 := Lib.hid (HR2.out.below hb3 hs2)
    have hs3 := hb3.size
    rw [← HSM.out]
    clear hb3
    go_wp2_with fail
    refine (implPack_any ps A n c _ _ _ (by omega) (by omega) HZ.out HR3.out).mono ?_
    rintro e w4 ⟨hb4, B, m, d, -, rfl⟩
    have HB4 := Lib.hid (bel_tr HB3.out (Nat.le_refl _) hb4)
    rw [← HOK.out]
    clear hb4
    rcases ok with _ | _
    · obtain rfl := h1.2 rfl
      clear h1
      go_wp2_with fail
      go_ret
      exact ⟨rfl, HB4.out⟩
    · obtain ⟨h2, h3⟩ := h1.1 rfl
      clear h1
      have h4 : decide (0 ≤ sm) = true := by simpa using h2
      go_wp2_with fail
      go_ret
      exact ⟨ret_bool (by first | (simp; done) | (simp; omega)), HB4.out⟩

set_option linter.unusedVariables false
set_option maxRecDepth 100000 in
theorem lifted (os : Os) (started : os.Started) (H : Type) (enc : TypeId × Value → H) :
    ReturnsInHanded {} Try.checked os 7 .any (Rows.fnPackSumSpec.pre6 enc Try.prog Try.f7 Rows.fnPackSumRow.domain false) (Rows.fnPackSumSpec.post enc Try.prog Try.f7 false true false false) := by
  refine returnsInHanded_of_change (C := Try.checked) Try.own started (by kernel_rfl) Try.func7
    (ChangeSpec.witness6 (enc := enc) (C := Try.checked) false ⟨#[], #[.slice none 0 0], []⟩ 8 (by kernel_rfl) (by kernel_rfl) (by kernel_rfl) (by kernel_rfl)) ?_
  intro W base args ds gs before hval0 hW hcnd _
  have hval : ∀ (j : Nat) t v, Try.f7.params[j]? = some t → args[j]? = some v → Value.okWide Try.prog W .any base t v := hval0
  have hW' := hW
  obtain ⟨p, q, hA0, hV, rfl, hfz, hnd⟩ := hW
  have hA : DataW.TrodAll enc Try.prog W 0 (fun _ => true) true Try.f7.params.toList args.toList ds p := hA0
  rw [Try.params7] at hA hval
  obtain ⟨v0, vs0, d0, ds0, p0, q0, hargs, rfl, rfl, h0, r0⟩ := trodAll_cons hA
  obtain ⟨rfl, rfl, rfl⟩ := trodAll_nil r0
  obtain rfl : args = #[v0] := by cases args; simp_all
  obtain ⟨rfl, rfl⟩ := trodVars_none hV
  have k0 := h0
  have lt0 : ∀ x ∈ p0, x.block < W.heap.size := by obtain ⟨m, hm⟩ := k0; exact DataW.trod_lt m _ _ _ hm
  obtain ⟨a0, len0, cap0, rfl⟩ := okWide_slice Try.underlying29 (hval 0 29 v0 rfl rfl)
  obtain ⟨z0, w0⟩ := open_row (k := .u8) Try.underlying29 Try.underlying5 (by kernel_rfl) h0 (fun _ => rfl)
  clear hA0 hval0
  refine (walk a0 len0 cap0 z0 W w0).mono fun e W' ⟨he, bel⟩ => ?_
  subst he
  exact ⟨_, rfl, _, _, _, [], _, [], hW', trodAll_mk1 (shut_bool Try.underlying4 _), (trodAll_cons_mk (Below.trod Try.laidOut (by kernel_rfl) (of_decide_eq_true (by kernel_rfl)) k0 bel lt0) trodAll_mk0), rfl, bel.frame _, fun h => by cases h⟩

theorem proved : Rows.FnPackSumSaid :=
  OpenClaim.holds_of_wide 7 Try.f7 rfl rfl rfl rfl rfl rfl rfl ⟨rfl, rfl, rfl, rfl, rfl⟩ rfl rfl rfl rfl rfl (by kernel_rfl) Try.func7 (by kernel_rfl)
    (of_decide_eq_true (by kernel_rfl)) (by unfold Func.isWrapper; first | (rw [if_pos (by decide +kernel)]; kernel_rfl) | (rw [if_neg (by decide +kernel)]; exact ⟨rfl, rfl⟩))
    (fun os started H enc _ => lifted os started H enc)

#print axioms proved
end Go.Proofs.Ytegfdckejncbdaa.fnPackSum
