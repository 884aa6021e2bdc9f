/-
  For all arguments: the program's PackObjects returns what the reference's returns, leaves its argument as it was, and shares no memory. No condition.
-/
import Derived.Test.YtegfdckejncbdaaPackT
import Derived.Test.YtegfdckejncbdaaPackQ
import Derived.Test.YtegfdckejncbdaaOPackEntry
namespace Go.Proofs.Ytegfdckejncbdaa.fnExactPackObjects
set_option linter.unusedVariables false
set_option linter.unusedSimpArgs false
open Go.ChangeShapes Go.WideShapes Go.ChangeAt Go.RowKit

set_option maxHeartbeats 3200000 in
set_option maxRecDepth 100000 in
theorem walk (a0 : Option Addr) (len0 cap0 : Nat) (z0 : List PED) (w : World) (w0 : D.rd w 0 w.heap.size (dPackEntrys z0) (.slice a0 len0 cap0)) :
    Calls Try.prog 6 #[.slice a0 len0 cap0] w fun e w' => e = .returned (.bool true) ∧ Below w.heap.size w w' := by
  have HI := Lib.hid w0
  have HN := Lib.hid w0.len.1
  clear w0
  go_enter Try.func6, Try.ntmps6
  go_wp2_with fail
  refine (szPackEntryS_d z0 a0 len0 cap0 1048576 _ 0 w.heap.size (Nat.le_refl _) HI.out (by omega) (by omega)).mono ?_
  rintro e w1 ⟨r, hr1, hr2, hr3, hb1, rfl⟩
  have HB1 := Lib.hid hb1
  clear hb1
  by_cases hr0 : r < 0
  · go_wp2_with fail
    go_ret
    exact ⟨rfl, HB1.out⟩
  · have hr4 : 0 ≤ r := by omega
    have hsz : D.sz (dPackEntrys z0) ≤ 1048576 := by have := hr3 hr4; omega
    have HSZ := Lib.hid hsz
    have HCT : Hid (D.cnt (dPackEntrys z0) ≤ 4000000) := by have := cnt_dPackEntrys z0; show _ ≤ _; omega
    have HCP := Lib.hid (cnt_pack z0)
    have hn20 : len0 ≤ 1048576 := by
      have h1 := HN.out
      unfold dPackEntrys at hsz
      rw [sz_arr] at hsz; omega
    obtain ⟨ok, hok⟩ : ∃ ok, packB z0 = ok := ⟨_, rfl⟩
    have HOK := Lib.hid hok
    have hq : (ok != ok) = false := by simp
    clear hr0 hr3 hsz hok
    go_wp2_with fail
    refine (toPackEntryS_d z0 a0 len0 cap0 _ 0 w.heap.size HB1.out.size (HI.out.below HB1.out (Nat.le_refl _)) HSZ.out).mono ?_
    rintro e w2 ⟨B2, d2, ho2, hb2, rfl⟩
    have HB2 := Lib.hid (bel_tr HB1.out (Nat.le_refl _) hb2)
    have HO2 := Lib.hid ho2.rd
    clear ho2 hb2
    go_wp2_with fail
    refine (specPack_any z0 B2 len0 d2 _ _ w2.heap.size (Nat.le_refl _) hn20 HSZ.out HO2.out).mono ?_
    rintro e w3 ⟨hb3, B3, m3, d3, ho3, rfl⟩
    have HB3 := Lib.hid (bel_tr HB2.out (Nat.le_refl _) hb3)
    have HW3 := Lib.hid ho3.rd
    have hs3 := hb3.size
    rw [HOK.out]
    clear ho3 hb3
    go_wp2_with fail
    refine (toPackEntryS_d z0 a0 len0 cap0 _ 0 w.heap.size HB3.out.size (HI.out.below HB3.out (Nat.le_refl _)) HSZ.out).mono ?_
    rintro e w4 ⟨B4, d4, ho4, hb4, rfl⟩
    have HB4 := Lib.hid (bel_tr HB3.out (Nat.le_refl _) hb4)
    have HX4 := Lib.hid ho4.ival
    have HW4 := Lib.hid (HW3.out.below hb4 (Nat.le_refl _))
    have hs4 := hb4.size
    clear ho4 hb4
    go_wp2_with fail
    refine (implPack_any z0 B4 len0 d4 _ _ w4.heap.size (Nat.le_refl _) hn20 HSZ.out HX4.out.rd).mono ?_
    rintro e w5 ⟨hb5, B5, m5, d5, ho5, rfl⟩
    have HB5 := Lib.hid (bel_tr HB4.out (Nat.le_refl _) hb5)
    have HX5 := Lib.hid (HX4.out.below hb5 (Nat.le_refl _))
    have HW5 := Lib.hid (HW4.out.below hb5 hs4)
    have HG5 := Lib.hid ho5.ival
    have hs5 := hb5.size
    rw [HOK.out]
    clear ho5 hb5
    go_wp2_with fail
    refine (eqObjectS_d (packL z0) B5 B3 m5 m3 d5 d3 _ w4.heap.size w5.heap.size w2.heap.size w3.heap.size (Nat.le_refl _) (by omega) HG5.out.rd HW5.out).mono ?_
    rintro e w6 ⟨rfl, hb6⟩
    have HB6 := Lib.hid (bel_tr HB5.out (Nat.le_refl _) hb6)
    have HX6 := Lib.hid (HX5.out.below hb6 hs5)
    have HW6 := Lib.hid (HW5.out.below hb6 (by omega))
    have HG6 := Lib.hid (HG5.out.below hb6 (Nat.le_refl _))
    have hs6 := hb6.size
    clear hb6
    go_wp2_with fail
    refine (toPackEntryS_d z0 a0 len0 cap0 _ 0 w.heap.size HB6.out.size (HI.out.below HB6.out (Nat.le_refl _)) HSZ.out).mono ?_
    rintro e w7 ⟨B7, d7, ho7, hb7, rfl⟩
    have HB7 := Lib.hid (bel_tr HB6.out (Nat.le_refl _) hb7)
    have HO7 := Lib.hid ho7.rd
    have HX7 := Lib.hid (HX6.out.below hb7 (by omega))
    have HW7 := Lib.hid (HW6.out.below hb7 (by omega))
    have HG7 := Lib.hid (HG6.out.below hb7 hs6)
    have hs7 := hb7.size
    clear ho7 hb7
    go_wp2_with fail
    refine (eqPackEntryS_d z0 B4 B7 len0 len0 d4 d7 _ w3.heap.size w4.heap.size w6.heap.size w7.heap.size (by omega) (Nat.le_refl _) HX7.out.rd HO7.out).mono ?_
    rintro e w8 ⟨rfl, hb8⟩
    have HB8 := Lib.hid (bel_tr HB7.out (Nat.le_refl _) hb8)
    have HX8 := Lib.hid (HX7.out.below hb8 (by omega))
    have HW8 := Lib.hid (HW7.out.below hb8 (by omega))
    have HG8 := Lib.hid (HG7.out.below hb8 (by omega))
    have hs8 := hb8.size
    have hws := HB2.out.size
    clear hb8 HO7
    obtain ⟨F8, hF8⟩ := HX8.out
    have HF8a := Lib.hid hF8.1
    have HF8b := Lib.hid hF8.2.1
    have HF8c := Lib.hid hF8.2.2
    clear hF8
    go_wp2_with fail
    refine (markPackEntryS_d z0 B4 len0 d4 1 1 F8 _ rfl (by omega) (by have := HCT.out; omega) HF8a.out (fun g hg => by have := (HF8b.out g hg).2; omega) HF8c.out).mono ?_
    rintro e w9 ⟨-, hc9, rfl⟩
    have HB9 := Lib.hid (hc9.below HB8.out (Nat.le_refl _) (fun g hg => by have := (HF8b.out g hg).1; omega))
    have HW9 := Lib.hid (HW8.out.chg hc9 (by omega) (fun g hg => by have := HF8b.out g hg; omega))
    have HG9 := Lib.hid (HG8.out.chg hc9 (by omega) (fun g hg => by have := HF8b.out g hg; omega))
    have hs9 := hc9.2.2.2.1
    clear hc9 HX8
    have hk9 : 1 + D.cnt (dPackEntrys z0) ≤ 4000001 := by have := HCT.out; omega
    have hk9' : ¬ (((1 + D.cnt (dPackEntrys z0) : Nat) : Int) < 0) := by omega
    obtain ⟨q9, hq9⟩ : ∃ q9, 1 + D.cnt (dPackEntrys z0) = q9 := ⟨_, rfl⟩
    rw [hq9] at hk9 hk9' ⊢
    clear hq9
    go_wp2_with fail
    refine (eqObjectS_d (packL z0) B5 B3 m5 m3 d5 d3 _ w4.heap.size w5.heap.size w2.heap.size w3.heap.size (by omega) (by omega) HG9.out.rd HW9.out).mono ?_
    rintro e w10 ⟨rfl, hb10⟩
    have HB10 := Lib.hid (bel_tr HB9.out (Nat.le_refl _) hb10)
    have HW10 := Lib.hid (HW9.out.below hb10 (by omega))
    have HG10 := Lib.hid (HG9.out.below hb10 (by omega))
    have hs10 := hb10.size
    clear hb10
    obtain ⟨G, hG⟩ := HG10.out
    have HGa := Lib.hid hG.1
    have HGb := Lib.hid hG.2.1
    have HGc := Lib.hid hG.2.2
    clear hG
    go_wp2_with fail
    refine (markObjectS_d (packL z0) B5 m5 d5 1 1 G _ rfl (by omega) (by have := HCP.out; omega) HGa.out (fun g hg => by have := (HGb.out g hg).2; omega) HGc.out).mono ?_
    rintro e w11 ⟨ho11, hc11, rfl⟩
    have HB11 := Lib.hid (hc11.below HB10.out (Nat.le_refl _) (fun g hg => by have := (HGb.out g hg).1; omega))
    have HW11 := Lib.hid (HW10.out.chg hc11 (by omega) (fun g hg => by have := HGb.out g hg; omega))
    have HM11 : Hid (D.rd w11 w4.heap.size w5.heap.size (D.mark (dObjects (packL z0)) 1) (.slice B5 m5 d5)) := D.own.rd _ G _ HGb.out ho11
    have hs11 := hc11.2.2.2.1
    clear ho11 hc11 HG10
    obtain ⟨q, hqq⟩ : ∃ q, 1 + D.cnt (dObjects (packL z0)) = q := ⟨_, rfl⟩
    have hqk : q ≤ 1001 := by have := HCP.out; omega
    have HQ := Lib.hid hqq
    rw [hqq]
    clear hqq
    have hne : ((q : Int) != (q : Int)) = false := by simp
    have hnn : ¬ ((q : Int) < 0) := by omega
    go_wp2_with fail
    refine (heldObjectS_d (packL z0) B5 m5 d5 1 1 _ w4.heap.size w5.heap.size (by omega) rfl (by omega) (by have := HCP.out; omega) HM11.out).mono ?_
    rintro e w12 ⟨hb12, rfl⟩
    rw [HQ.out]
    have HB12 := Lib.hid (bel_tr HB11.out (Nat.le_refl _) hb12)
    have HW12 := Lib.hid (HW11.out.below hb12 (by omega))
    have HM12 := Lib.hid (HM11.out.below hb12 (by omega))
    have hs12 := hb12.size
    clear hb12
    go_wp2_with fail
    refine (toPackEntryS_d z0 a0 len0 cap0 _ 0 w.heap.size HB12.out.size (HI.out.below HB12.out (Nat.le_refl _)) HSZ.out).mono ?_
    rintro e w13 ⟨B13, d13, ho13, hb13, rfl⟩
    have HB13 := Lib.hid (bel_tr HB12.out (Nat.le_refl _) hb13)
    have HO13 := Lib.hid ho13.rd
    have HW13 := Lib.hid (HW12.out.below hb13 (by omega))
    have HM13 := Lib.hid (HM12.out.below hb13 (by omega))
    have hs13 := hb13.size
    clear ho13 hb13
    go_wp2_with fail
    refine (implPack_any z0 B13 len0 d13 _ _ w13.heap.size (Nat.le_refl _) hn20 HSZ.out HO13.out).mono ?_
    rintro e w14 ⟨hb14, B14, m14, d14, ho14, rfl⟩
    have HB14 := Lib.hid (bel_tr HB13.out (Nat.le_refl _) hb14)
    have HW14 := Lib.hid (HW13.out.below hb14 (by omega))
    have HM14 := Lib.hid (HM13.out.below hb14 (by omega))
    have HH14 := Lib.hid ho14.rd
    have hs14 := hb14.size
    rw [HOK.out]
    clear ho14 hb14
    go_wp2_with fail
    refine (eqObjectS_d (packL z0) B14 B3 m14 m3 d14 d3 _ w13.heap.size w14.heap.size w2.heap.size w3.heap.size (Nat.le_refl _) (by omega) HH14.out HW14.out).mono ?_
    rintro e w15 ⟨rfl, hb15⟩
    have HB15 := Lib.hid (bel_tr HB14.out (Nat.le_refl _) hb15)
    have HM15 := Lib.hid (HM14.out.below hb15 (by omega))
    have hs15 := hb15.size
    clear hb15
    go_wp2_with fail
    refine (heldObjectS_d (packL z0) B5 m5 d5 1 1 _ w4.heap.size w5.heap.size (by omega) rfl (by omega) (by have := HCP.out; omega) HM15.out).mono ?_
    rintro e w16 ⟨hb16, rfl⟩
    rw [HQ.out]
    have HB16 := Lib.hid (bel_tr HB15.out (Nat.le_refl _) hb16)
    clear hb16
    go_wp2_with fail
    go_ret
    exact ⟨rfl, HB16.out⟩

set_option linter.unusedVariables false
set_option maxRecDepth 100000 in
theorem lifted (os : Os) (started : os.Started) (H : Type) (enc : TypeId × Value → H) :
    ReturnsInHanded {} Try.checked os 6 .any (Rows.fnExactPackObjectsSpec.pre6 enc Try.prog Try.f6 Rows.fnExactPackObjectsRow.domain false) (Rows.fnExactPackObjectsSpec.post enc Try.prog Try.f6 false true false false) := by
  refine returnsInHanded_of_change (C := Try.checked) Try.own started (by kernel_rfl) Try.func6
    (ChangeSpec.witness6 (enc := enc) (C := Try.checked) false ⟨#[], #[.slice none 0 0], []⟩ 8 (by kernel_rfl) (by kernel_rfl) (by kernel_rfl) (by kernel_rfl)) ?_
  intro W base args ds gs before hval0 hW hcnd _
  have hval : ∀ (j : Nat) t v, Try.f6.params[j]? = some t → args[j]? = some v → Value.okWide Try.prog W .any base t v := hval0
  have hW' := hW
  obtain ⟨p, q, hA0, hV, rfl, hfz, hnd⟩ := hW
  have hA : DataW.TrodAll enc Try.prog W 0 (fun _ => true) true Try.f6.params.toList args.toList ds p := hA0
  rw [Try.params6] at hA hval
  obtain ⟨v0, vs0, d0, ds0, p0, q0, hargs, rfl, rfl, h0, r0⟩ := trodAll_cons hA
  obtain ⟨rfl, rfl, rfl⟩ := trodAll_nil r0
  obtain rfl : args = #[v0] := by cases args; simp_all
  obtain ⟨rfl, rfl⟩ := trodVars_none hV
  have k0 := h0
  have lt0 : ∀ x ∈ p0, x.block < W.heap.size := by obtain ⟨m, hm⟩ := k0; exact DataW.trod_lt m _ _ _ hm
  obtain ⟨a0, len0, cap0, z0, rfl, w0⟩ := open_PackEntry (hval 0 22 v0 rfl rfl) h0
  clear hA0 hval0
  refine (walk a0 len0 cap0 z0 W w0).mono fun e W' ⟨he, bel⟩ => ?_
  subst he
  exact ⟨_, rfl, _, _, _, [], _, [], hW', trodAll_mk1 (shut_bool Try.underlying4 _), (trodAll_cons_mk (Below.trod Try.laidOut (by kernel_rfl) (of_decide_eq_true (by kernel_rfl)) k0 bel lt0) trodAll_mk0), rfl, bel.frame _, fun h => by cases h⟩

theorem proved : Rows.FnExactPackObjectsSaid :=
  OpenClaim.holds_of_wide 6 Try.f6 rfl rfl rfl rfl rfl rfl rfl ⟨rfl, rfl, rfl, rfl, rfl⟩ rfl rfl rfl rfl rfl (by kernel_rfl) Try.func6 (by kernel_rfl)
    (of_decide_eq_true (by kernel_rfl)) (by unfold Func.isWrapper; first | (rw [if_pos (by decide +kernel)]; kernel_rfl) | (rw [if_neg (by decide +kernel)]; exact ⟨rfl, rfl⟩))
    (fun os started H enc _ => lifted os started H enc)

#print axioms proved
end Go.Proofs.Ytegfdckejncbdaa.fnExactPackObjects
