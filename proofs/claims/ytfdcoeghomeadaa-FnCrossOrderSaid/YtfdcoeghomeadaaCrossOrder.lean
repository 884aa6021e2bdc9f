/-
  For every code and more: drawn updates that do not cross commute. No condition.
-/
import Derived.Test.YtfdcoeghomeadaaSame
import Derived.Test.YtfdcoeghomeadaaRefsL
import Derived.Test.YtfdcoeghomeadaaCross
namespace Go.Proofs.Ytfdcoeghomeadaa.fnCrossOrder
open Go.ChangeShapes Go.WideShapes Go.ChangeAt Go.RowKit

theorem isRow_below {k : IntKind} {w w' : World} {C : Nat} {a : Option Addr} {len cap : Nat} {zs : List Int} (h : IsRow k w a len cap zs) (hb : Below C w w') (hC : w.heap.size ≤ C) : IsRow k w' a len cap zs := by
  rcases h with h | ⟨x, rfl, h1, h2, hz, hc, hw⟩
  · exact .inl h
  · refine .inr ⟨x, rfl, h1, h2, hz, fun i hi => ?_, hw⟩
    have := hc i hi
    exact (hb.cell (Nat.lt_of_lt_of_le (World.block_lt_of_cell? w _ this) hC)).trans this

set_option maxRecDepth 100000 in
set_option maxHeartbeats 3200000 in
theorem walk (a0 : Option Addr) (len0 cap0 : Nat) (z0 : List Int) (a1 : Option Addr) (len1 cap1 : Nat) (z1 : List Int) (w : World) (w0 : IsRow .u8 w a0 len0 cap0 z0) (w1 : IsRow .u8 w a1 len1 cap1 z1) :
    Calls Try.prog 9 #[.slice a0 len0 cap0, .slice a1 len1 cap1] w fun e w' => e = .returned (.bool true) ∧ Below w.heap.size w w' := by
  have hn := w0.bd
  have hn' := w1.bd
  have HI := Lib.hid w0
  have HJ := Lib.hid w1
  clear w0 w1
  have hbig : 1048576 < len0 ∨ (len0 ≤ 1048576 ∧ 1048576 < len1) ∨ (len0 ≤ 1048576 ∧ len1 ≤ 1048576) := by omega
  rcases hbig with hbig | ⟨hs0, hbig⟩ | ⟨hs0, hs1⟩
  · go_enter Try.func9, Try.ntmps9
    go_wp2
    go_ret
    exact ⟨rfl, Below.refl _ _⟩
  · go_enter Try.func9, Try.ntmps9
    go_wp2
    go_ret
    exact ⟨rfl, Below.refl _ _⟩
  · go_enter Try.func9, Try.ntmps9
    go_wp2_with fail
    refine (drawRefsApply_any _ _ _ z0 _ HI.out).mono ?_
    rintro e w1 ⟨A1, n1, c1, xs, B1, m1, d1, us, rfl, hn4, hnc, hcm, hm4, hmd, hdm, hI, hU, hb1⟩
    have HX := Lib.hid hI
    have HU := Lib.hid hU
    have HB1 := Lib.hid hb1
    have hc63 : c1 ≤ 9223372036854775807 := hcm
    have hd63 : d1 ≤ 9223372036854775807 := hdm
    have hn163 : n1 ≤ 9223372036854775807 := by omega
    have hm163 : m1 ≤ 9223372036854775807 := by omega
    clear hI hU hcm hdm hb1
    go_wp2_with fail
    refine (implAns_any A1 B1 n1 c1 m1 d1 xs us _ _ _ _ _ (Nat.le_refl _) (Nat.le_refl _) hn4 hm4 HX.out HU.out).mono ?_
    rintro e w2 ⟨A2, n2, c2, rfl, hn24, hnc2, hc2, hI2, hb2⟩
    have HI2 := Lib.hid hI2
    have HX2 := Lib.hid (HX.out.below hb2 (Nat.le_refl _))
    have HU2 := Lib.hid (HU.out.below hb2 (Nat.le_refl _))
    have HB2 : Hid (Below w.heap.size w w2) := HB1.out.trans (hb2.mono HB1.out.size)
    have hsz2 := hb2.size
    clear hI2 hb2
    go_wp2_with fail
    refine (specAns_any A1 B1 n1 c1 m1 d1 xs us _ _ _ _ _ hsz2 hsz2 hn4 hm4 HX2.out HU2.out).mono ?_
    rintro e w3 ⟨A3, n3, c3, rfl, hn34, hnc3, hc3, hI3, hb3⟩
    have h32 : n3 = n2 := by rw [← hI3.1, ← HI2.out.1]
    subst h32
    have HI3 := Lib.hid hI3
    have HI23 := Lib.hid (HI2.out.below hb3 (Nat.le_refl _))
    have HX3 := Lib.hid (HX2.out.below hb3 hsz2)
    have HU3 := Lib.hid (HU2.out.below hb3 hsz2)
    have HB3 : Hid (Below w.heap.size w w3) := HB2.out.trans (hb3.mono HB2.out.size)
    have hsz3 := hb3.size
    clear hI3 hb3
    have hq2 : (!(applyB xs us == applyB xs us)) = false := by simp
    have hq3 : (applyB xs us == applyB xs us) = true := by simp
    rcases hrx : refsB xs with _ | _
    · go_wp2_with fail
      refine (sameInts_any _ _ _ _ _ (applyL xs us) _ _ _ _ _ (by omega) HI23.out HI3.out).mono ?_
      rintro e w4 ⟨rfl, m4, rfl⟩
      go_wp2_with fail
      refine (specRefs_any _ _ _ xs _ _ _ hn163 (HX3.out.drewN m4)).mono ?_
      rintro e w' ⟨rfl, rfl⟩
      rw [hrx]
      go_wp2_with fail
      refine (sameInts_any _ _ _ _ _ (applyL xs us) _ _ _ _ _ (by omega) (HI23.out.drewN m4) (HI3.out.drewN m4)).mono ?_
      rintro e w5 ⟨rfl, m5, rfl⟩
      go_wp2_with fail
      go_ret
      exact ⟨rfl, below_drewN HB3.out (m4 + m5)⟩
    · rcases hux : updsB us with _ | _
      · go_wp2_with fail
        refine (sameInts_any _ _ _ _ _ (applyL xs us) _ _ _ _ _ (by omega) HI23.out HI3.out).mono ?_
        rintro e w4 ⟨rfl, m4, rfl⟩
        go_wp2_with fail
        refine (specRefs_any _ _ _ xs _ _ _ hn163 (HX3.out.drewN m4)).mono ?_
        rintro e w' ⟨rfl, rfl⟩
        rw [hrx]
        go_wp2_with fail
        refine (specUpds_any _ _ _ us (w3.drewN m4) _ _ (Nat.le_trans hsz2 hsz3) hm163 (HU3.out.drewN m4)).mono ?_
        rintro e w5 ⟨rfl, hb5⟩
        rw [hux]
        have HB5 : Hid (Below w.heap.size w w5) := (below_drewN HB3.out m4).trans (hb5.mono HB3.out.size)
        have HI25 := Lib.hid ((HI23.out.drewN m4).below hb5 hsz3)
        have HI35 := Lib.hid ((HI3.out.drewN m4).below hb5 (Nat.le_refl _))
        clear hb5
        go_wp2_with fail
        refine (sameInts_any _ _ _ _ _ (applyL xs us) _ _ _ _ _ (by omega) HI25.out HI35.out).mono ?_
        rintro e w6 ⟨rfl, m6, rfl⟩
        go_wp2_with fail
        go_ret
        exact ⟨rfl, below_drewN HB5.out m6⟩
      · go_wp2_with fail
        refine (sameInts_any _ _ _ _ _ (applyL xs us) _ _ _ _ _ (by omega) HI23.out HI3.out).mono ?_
        rintro e w4 ⟨rfl, m4, rfl⟩
        go_wp2_with fail
        refine (specRefs_any _ _ _ xs _ _ _ hn163 (HX3.out.drewN m4)).mono ?_
        rintro e w' ⟨rfl, rfl⟩
        rw [hrx]
        go_wp2_with fail
        refine (specUpds_any _ _ _ us (w3.drewN m4) _ _ (Nat.le_trans hsz2 hsz3) hm163 (HU3.out.drewN m4)).mono ?_
        rintro e w5 ⟨rfl, hb5⟩
        rw [hux]
        have HB5 : Hid (Below w.heap.size w w5) := (below_drewN HB3.out m4).trans (hb5.mono HB3.out.size)
        have HI25 := Lib.hid ((HI23.out.drewN m4).below hb5 hsz3)
        have HX5 := Lib.hid ((HX3.out.drewN m4).below hb5 (Nat.le_trans hsz2 hsz3))
        have HU5 := Lib.hid ((HU3.out.drewN m4).below hb5 (Nat.le_trans hsz2 hsz3))
        have hsz5 := hb5.size
        have hs35 : w3.heap.size ≤ w5.heap.size := hsz5
        have hs15 : w1.heap.size ≤ w5.heap.size := by omega
        have hs25 : w2.heap.size ≤ w5.heap.size := by omega
        have HJ5 := Lib.hid (isRow_below HJ.out HB5.out (Nat.le_refl _))
        clear hb5
        go_wp2_with fail
        refine (drawRefsApply_any _ _ _ z1 _ HJ5.out).mono ?_
        rintro e w6 ⟨A6, n6, c6, ys, B6, m6, d6, vs, rfl, -, -, -, hm64, -, -, -, hV, hb6⟩
        have HV := Lib.hid hV
        have HB6 : Hid (Below w.heap.size w w6) := HB5.out.trans (hb6.mono HB5.out.size)
        have HI26 := Lib.hid (HI25.out.below hb6 hs25)
        have HX6 := Lib.hid (HX5.out.below hb6 hs15)
        have HU6 := Lib.hid (HU5.out.below hb6 hs15)
        have hsz6 := hb6.size
        have hm663 : m6 ≤ 9223372036854775807 := by omega
        clear hV hb6
        go_wp2_with fail
        refine (implUpds_any _ _ _ vs w6 _ _ (Nat.le_refl _) hm663 HV.out).mono ?_
        rintro e w7 ⟨rfl, hb7⟩
        have HB7 : Hid (Below w.heap.size w w7) := HB6.out.trans (hb7.mono HB6.out.size)
        have HI27 := Lib.hid (HI26.out.below hb7 (Nat.le_trans hs25 hsz6))
        have HX7 := Lib.hid (HX6.out.below hb7 (Nat.le_trans hs15 hsz6))
        have HU7 := Lib.hid (HU6.out.below hb7 (Nat.le_trans hs15 hsz6))
        have HV7 := Lib.hid (HV.out.below hb7 (Nat.le_refl _))
        have hsz7 := hb7.size
        have hs17 : w1.heap.size ≤ w7.heap.size := by omega
        have hs37 : w2.heap.size ≤ w7.heap.size := by omega
        clear hb7
        rcases hvx : updsB vs with _ | _
        · go_wp2_with fail
          go_ret
          exact ⟨rfl, HB7.out⟩
        · go_wp2_with fail
          refine (implCross_any _ _ _ _ _ _ us vs w7 _ _ _ _ hm163 hm663 hs17 hsz7 HU7.out HV7.out).mono ?_
          rintro e w8 ⟨rfl, hb8⟩
          have HB8 : Hid (Below w.heap.size w w8) := HB7.out.trans (hb8.mono HB7.out.size)
          have HI28 := Lib.hid (HI27.out.below hb8 hs37)
          have HX8 := Lib.hid (HX7.out.below hb8 hs17)
          have HU8 := Lib.hid (HU7.out.below hb8 hs17)
          have HV8 := Lib.hid (HV7.out.below hb8 hsz7)
          have hsz8 := hb8.size
          clear hb8
          rcases hcx : crossB us vs with _ | _
          · have hord := apply_order hrx hux hvx hcx
            have O1 := Lib.hid hord.1
            have O2 := Lib.hid hord.2.1
            have O3 := Lib.hid hord.2.2
            clear hord hrx hux hvx hcx
            have hs18 : w1.heap.size ≤ w8.heap.size := by omega
            have hs38 : w2.heap.size ≤ w8.heap.size := by omega
            have hs68 : w6.heap.size ≤ w8.heap.size := by omega
            go_wp2_with fail
            refine (implAns_any A2 B6 n3 c2 m6 d6 (applyL xs us) vs w8 _ _ _ _ hs38 hs68 hn34 hm64 HI28.out HV8.out).mono ?_
            rintro e w9 ⟨A9, n9, c9, rfl, hn94, hnc9, hc9, hI9, hb9⟩
            rw [O1.out]
            have HI9 := Lib.hid hI9
            have HB9 : Hid (Below w.heap.size w w9) := HB8.out.trans (hb9.mono HB8.out.size)
            have HX9 := Lib.hid (HX8.out.below hb9 hs18)
            have HU9 := Lib.hid (HU8.out.below hb9 hs18)
            have HV9 := Lib.hid (HV8.out.below hb9 hs68)
            have hsz9 := hb9.size
            clear hI9 hb9
            have hs19 : w1.heap.size ≤ w9.heap.size := by omega
            have hs69 : w6.heap.size ≤ w9.heap.size := by omega
            go_wp2_with fail
            refine (implAns_any A1 B6 n1 c1 m6 d6 xs vs w9 _ _ _ _ hs19 hs69 hn4 hm64 HX9.out HV9.out).mono ?_
            rintro e w10 ⟨A10, n10, c10, rfl, hn104, hnc10, hc10, hI10, hb10⟩
            have HI10 := Lib.hid hI10
            have HB10 : Hid (Below w.heap.size w w10) := HB9.out.trans (hb10.mono HB9.out.size)
            have HI910 := Lib.hid (HI9.out.below hb10 (Nat.le_refl _))
            have HU10 := Lib.hid (HU9.out.below hb10 hs19)
            have hsz10 := hb10.size
            clear hI10 hb10
            have hs110 : w1.heap.size ≤ w10.heap.size := by omega
            go_wp2_with fail
            refine (implAns_any A10 B1 n10 c10 m1 d1 (applyL xs vs) us w10 _ _ _ _ (Nat.le_refl _) hs110 hn104 hm4 HI10.out HU10.out).mono ?_
            rintro e w11 ⟨A11, n11, c11, rfl, hn114, hnc11, hc11, hI11, hb11⟩
            rw [O2.out]
            rw [← O3.out] at hI11
            have h119 : n11 = n9 := by rw [← hI11.1, ← HI910.out.1]
            subst h119
            have HI11 := Lib.hid hI11
            have HI911 := Lib.hid (HI910.out.below hb11 hsz10)
            have HB11 : Hid (Below w.heap.size w w11) := HB10.out.trans (hb11.mono HB10.out.size)
            clear hI11 hb11
            have hq5 : (applyB xs vs == applyB xs vs) = true := by simp
            go_wp2_with fail
            refine (sameInts_any _ _ _ _ _ (applyL (applyL xs us) vs) _ _ _ _ _ (by omega) HI911.out HI11.out).mono ?_
            rintro e w12 ⟨rfl, m12, rfl⟩
            go_wp2_with fail
            go_ret
            exact ⟨rfl, below_drewN HB11.out m12⟩
          · go_wp2_with fail
            go_ret
            exact ⟨rfl, HB8.out⟩

set_option linter.unusedVariables false
set_option maxRecDepth 100000 in
theorem lifted (os : Os) (started : os.Started) (H : Type) (enc : TypeId × Value → H) :
    ReturnsInHanded {} Try.checked os 9 .any (Rows.fnCrossOrderSpec.pre6 enc Try.prog Try.f9 Rows.fnCrossOrderRow.domain false) (Rows.fnCrossOrderSpec.post enc Try.prog Try.f9 false true false false) := by
  refine returnsInHanded_of_change (C := Try.checked) Try.own started (by kernel_rfl) Try.func9
    (ChangeSpec.witness6 (enc := enc) (C := Try.checked) false ⟨#[], #[.slice none 0 0, .slice none 0 0], []⟩ 8 (by kernel_rfl) (by kernel_rfl) (by kernel_rfl) (by kernel_rfl)) ?_
  intro W base args ds gs before hval0 hW hcnd _
  have hval : ∀ (j : Nat) t v, Try.f9.params[j]? = some t → args[j]? = some v → Value.okWide Try.prog W .any base t v := hval0
  have hW' := hW
  obtain ⟨p, q, hA0, hV, rfl, hfz, hnd⟩ := hW
  have hA : DataW.TrodAll enc Try.prog W 0 (fun _ => true) true Try.f9.params.toList args.toList ds p := hA0
  rw [Try.params9] at hA hval
  obtain ⟨v0, vs0, d0, ds0, p0, q0, hargs, rfl, rfl, h0, r0⟩ := trodAll_cons hA
  obtain ⟨v1, vs1, d1, ds1, p1, q1, rfl, rfl, rfl, h1, r1⟩ := trodAll_cons r0
  obtain ⟨rfl, rfl, rfl⟩ := trodAll_nil r1
  obtain rfl : args = #[v0, v1] := by cases args; simp_all
  obtain ⟨rfl, rfl⟩ := trodVars_none hV
  have k0 := h0
  have lt0 : ∀ x ∈ p0, x.block < W.heap.size := by obtain ⟨m, hm⟩ := k0; exact DataW.trod_lt m _ _ _ hm
  obtain ⟨a0, len0, cap0, rfl⟩ := okWide_slice Try.underlying22 (hval 0 22 v0 rfl rfl)
  obtain ⟨z0, w0⟩ := open_row (k := .u8) Try.underlying22 Try.underlying5 (by kernel_rfl) h0 (fun _ => rfl)
  have k1 := h1
  have lt1 : ∀ x ∈ p1, x.block < W.heap.size := by obtain ⟨m, hm⟩ := k1; exact DataW.trod_lt m _ _ _ hm
  obtain ⟨a1, len1, cap1, rfl⟩ := okWide_slice Try.underlying22 (hval 1 22 v1 rfl rfl)
  obtain ⟨z1, w1⟩ := open_row (k := .u8) Try.underlying22 Try.underlying5 (by kernel_rfl) h1 (fun _ => rfl)
  clear hA0 hval0
  refine (walk a0 len0 cap0 z0 a1 len1 cap1 z1 W w0 w1).mono fun e W' ⟨he, bel⟩ => ?_
  subst he
  exact ⟨_, rfl, _, _, _, [], _, [], hW', trodAll_mk1 (shut_bool Try.underlying4 _), (trodAll_cons_mk (Below.trod Try.laidOut (by kernel_rfl) (of_decide_eq_true (by kernel_rfl)) k0 bel lt0) (trodAll_cons_mk (Below.trod Try.laidOut (by kernel_rfl) (of_decide_eq_true (by kernel_rfl)) k1 bel lt1) trodAll_mk0)), rfl, bel.frame _, fun h => by cases h⟩

theorem proved : Rows.FnCrossOrderSaid :=
  OpenClaim.holds_of_wide 9 Try.f9 rfl rfl rfl rfl rfl rfl rfl ⟨rfl, rfl, rfl, rfl, rfl⟩ rfl rfl rfl rfl rfl (by kernel_rfl) Try.func9 (by kernel_rfl)
    (of_decide_eq_true (by kernel_rfl)) (by unfold Func.isWrapper; first | (rw [if_pos (by decide +kernel)]; kernel_rfl) | (rw [if_neg (by decide +kernel)]; exact ⟨rfl, rfl⟩))
    (fun os started H enc _ => lifted os started H enc)

#print axioms proved
end Go.Proofs.Ytfdcoeghomeadaa.fnCrossOrder
