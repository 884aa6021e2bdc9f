/-
  For all arguments: the program's PackSum returns what the reference's returns, and leaves its argument as it was. No condition.
-/
import Derived.Test.YtegfdckejncbdaaPackSum
import Derived.Test.YtegfdckejncbdaaOPackEntry
namespace Go.Proofs.Ytegfdckejncbdaa.fnExactPackSum
set_option linter.unusedVariables false
set_option linter.unusedSimpArgs false
open Go.ChangeShapes Go.WideShapes Go.ChangeAt Go.RowKit

set_option maxHeartbeats 1600000 in
set_option maxRecDepth 100000 in
theorem walk (a0 : Option Addr) (len0 cap0 : Nat) (z0 : List PED) (w : World) (w0 : D.rd w 0 w.heap.size (dPackEntrys z0) (.slice a0 len0 cap0)) :
    Calls Try.prog 3 #[.slice a0 len0 cap0] w fun e w' => e = .returned (.bool true) ∧ Below w.heap.size w w' := by
  have HI := Lib.hid w0
  have HN := Lib.hid w0.len.1
  clear w0
  go_enter Try.func3, Try.ntmps3
  go_wp2_with fail
  refine (szPackEntryS_d z0 a0 len0 cap0 1048576 _ 0 w.heap.size (Nat.le_refl _) HI.out (by omega) (by omega)).mono ?_
  rintro e w1 ⟨r, hr1, hr2, hr3, hb1, rfl⟩
  have HB1 := Lib.hid hb1
  clear hb1
  by_cases hr0 : r < 0
  · go_wp2_with fail
    go_ret
    exact ⟨rfl, HB1.out⟩
  · have hr4 : 0 ≤ r := by omega
    have hsz : D.sz (dPackEntrys z0) ≤ 1048576 := by have := hr3 hr4; omega
    have HSZ := Lib.hid hsz
    have hn20 : len0 ≤ 1048576 := by
      have h1 := HN.out
      unfold dPackEntrys at hsz
      rw [sz_arr] at hsz; omega
    clear hr0 hr3 hsz
    go_wp2_with fail
    refine (toPackEntryS_d z0 a0 len0 cap0 _ 0 w.heap.size HB1.out.size (HI.out.below HB1.out (Nat.le_refl _)) HSZ.out).mono ?_
    rintro e w2 ⟨B2, d2, ho2, hb2, rfl⟩
    have HB2 := Lib.hid (bel_tr HB1.out (Nat.le_refl _) hb2)
    have HO2 := Lib.hid ho2.rd
    clear ho2 hb2
    go_wp2_with fail
    refine (specSum_any z0 B2 len0 d2 _ _ w2.heap.size (Nat.le_refl _) hn20 HSZ.out HO2.out).mono ?_
    rintro e w3 ⟨rfl, hb3⟩
    have HB3 := Lib.hid (bel_tr HB2.out (Nat.le_refl _) hb3)
    clear hb3
    go_wp2_with fail
    refine (toPackEntryS_d z0 a0 len0 cap0 _ 0 w.heap.size HB3.out.size (HI.out.below HB3.out (Nat.le_refl _)) HSZ.out).mono ?_
    rintro e w4 ⟨B4, d4, ho4, hb4, rfl⟩
    have HB4 := Lib.hid (bel_tr HB3.out (Nat.le_refl _) hb4)
    have HO4 := Lib.hid ho4.rd
    clear ho4 hb4
    go_wp2_with fail
    refine (implSum_any z0 B4 len0 d4 _ _ w4.heap.size (Nat.le_refl _) hn20 HSZ.out HO4.out).mono ?_
    rintro e w5 ⟨rfl, hb5⟩
    have HB5 := Lib.hid (bel_tr HB4.out (Nat.le_refl _) hb5)
    have HO5 := Lib.hid (HO4.out.below hb5 (Nat.le_refl _))
    have hs5 := hb5.size
    clear hb5
    obtain ⟨x, hx⟩ : ∃ x, packSum z0 = x := ⟨_, rfl⟩
    rw [hx]
    have hq : (x != x) = false := by simp
    clear hx
    go_wp2_with fail
    refine (toPackEntryS_d z0 a0 len0 cap0 _ 0 w.heap.size HB5.out.size (HI.out.below HB5.out (Nat.le_refl _)) HSZ.out).mono ?_
    rintro e w6 ⟨B6, d6, ho6, hb6, rfl⟩
    have HB6 := Lib.hid (bel_tr HB5.out (Nat.le_refl _) hb6)
    have HO6 := Lib.hid ho6.rd
    have HO46 := Lib.hid (HO5.out.below hb6 hs5)
    have hs6 : w4.heap.size ≤ w6.heap.size := Nat.le_trans hs5 hb6.size
    clear ho6 hb6
    go_wp2_with fail
    refine (eqPackEntryS_d z0 B4 B6 len0 len0 d4 d6 _ _ w4.heap.size _ w6.heap.size hs6 (Nat.le_refl _) HO46.out HO6.out).mono ?_
    rintro e w7 ⟨rfl, hb7⟩
    have HB7 := Lib.hid (bel_tr HB6.out (Nat.le_refl _) hb7)
    clear hb7
    go_wp2_with fail
    go_ret
    exact ⟨rfl, HB7.out⟩

set_option linter.unusedVariables false
set_option maxRecDepth 100000 in
theorem lifted (os : Os) (started : os.Started) (H : Type) (enc : TypeId × Value → H) :
    ReturnsInHanded {} Try.checked os 3 .any (Rows.fnExactPackSumSpec.pre6 enc Try.prog Try.f3 Rows.fnExactPackSumRow.domain false) (Rows.fnExactPackSumSpec.post enc Try.prog Try.f3 false true false false) := by
  refine returnsInHanded_of_change (C := Try.checked) Try.own started (by kernel_rfl) Try.func3
    (ChangeSpec.witness6 (enc := enc) (C := Try.checked) false ⟨#[], #[.slice none 0 0], []⟩ 8 (by kernel_rfl) (by kernel_rfl) (by kernel_rfl) (by kernel_rfl)) ?_
  intro W base args ds gs before hval0 hW hcnd _
  have hval : ∀ (j : Nat) t v, Try.f3.params[j]? = some t → args[j]? = some v → Value.okWide Try.prog W .any base t v := hval0
  have hW' := hW
  obtain ⟨p, q, hA0, hV, rfl, hfz, hnd⟩ := hW
  have hA : DataW.TrodAll enc Try.prog W 0 (fun _ => true) true Try.f3.params.toList args.toList ds p := hA0
  rw [Try.params3] at hA hval
  obtain ⟨v0, vs0, d0, ds0, p0, q0, hargs, rfl, rfl, h0, r0⟩ := trodAll_cons hA
  obtain ⟨rfl, rfl, rfl⟩ := trodAll_nil r0
  obtain rfl : args = #[v0] := by cases args; simp_all
  obtain ⟨rfl, rfl⟩ := trodVars_none hV
  have k0 := h0
  have lt0 : ∀ x ∈ p0, x.block < W.heap.size := by obtain ⟨m, hm⟩ := k0; exact DataW.trod_lt m _ _ _ hm
  obtain ⟨a0, len0, cap0, z0, rfl, w0⟩ := open_PackEntry (hval 0 22 v0 rfl rfl) h0
  clear hA0 hval0
  refine (walk a0 len0 cap0 z0 W w0).mono fun e W' ⟨he, bel⟩ => ?_
  subst he
  exact ⟨_, rfl, _, _, _, [], _, [], hW', trodAll_mk1 (shut_bool Try.underlying4 _), (trodAll_cons_mk (Below.trod Try.laidOut (by kernel_rfl) (of_decide_eq_true (by kernel_rfl)) k0 bel lt0) trodAll_mk0), rfl, bel.frame _, fun h => by cases h⟩

theorem proved : Rows.FnExactPackSumSaid :=
  OpenClaim.holds_of_wide 3 Try.f3 rfl rfl rfl rfl rfl rfl rfl ⟨rfl, rfl, rfl, rfl, rfl⟩ rfl rfl rfl rfl rfl (by kernel_rfl) Try.func3 (by kernel_rfl)
    (of_decide_eq_true (by kernel_rfl)) (by unfold Func.isWrapper; first | (rw [if_pos (by decide +kernel)]; kernel_rfl) | (rw [if_neg (by decide +kernel)]; exact ⟨rfl, rfl⟩))
    (fun os started H enc _ => lifted os started H enc)

#print axioms proved
end Go.Proofs.Ytegfdckejncbdaa.fnExactPackSum
