/-
  For every code: objects of a pack are valid, and no entry's depth is beyond the limit. No condition.
-/
import Derived.Test.YtegfdckejncbdaaDrawU
import Derived.Test.YtegfdckejncbdaaSameO
namespace Go.Proofs.Ytegfdckejncbdaa.fnPackObjects
set_option linter.unusedVariables false
set_option linter.unusedSimpArgs false
open Go.ChangeShapes Go.WideShapes Go.ChangeAt Go.RowKit

theorem packL_obj_at {ps : List PED} {k : Nat} (hk : k < (packL ps).length) : objB ⟨(packL ps)[k].kind, (packL ps)[k].links, (packL ps)[k].text⟩ = true := packL_obj _ (List.getElem_mem hk)

set_option maxHeartbeats 3200000 in
set_option maxRecDepth 100000 in
theorem walk (a0 : Option Addr) (len0 cap0 : Nat) (z0 : List Int) (w : World) (w0 : IsRow .u8 w a0 len0 cap0 z0) :
    Calls Try.prog 5 #[.slice a0 len0 cap0] w fun e w' => e = .returned (.bool true) ∧ Below w.heap.size w w' := by
  have hn := w0.bd
  have HI := Lib.hid w0
  clear w0
  by_cases hbig : 1048576 < len0
  · go_enter Try.func5, Try.ntmps5
    go_wp2
    go_ret
    exact ⟨rfl, Below.refl _ _⟩
  · have hs_len0 : len0 ≤ 1048576 := by omega
    clear hbig
    go_enter Try.func5, Try.ntmps5
    go_wp2_with fail
    refine (drawPackObjects_any _ _ _ z0 _ HI.out).mono ?_
    rintro e w1 ⟨ps, A, n, c, hr, hn17, hsz, hb1, rfl⟩
    have HR := Lib.hid hr
    have HN := Lib.hid hr.len.1
    have HZ := Lib.hid hsz
    have HB1 := Lib.hid hb1
    obtain ⟨ok, hok⟩ : ∃ ok, ok = packB ps := ⟨_, rfl⟩
    have HOK := Lib.hid hok
    have hq : (ok != ok) = false := by simp
    have hq2 : (ok == ok) = true := by simp
    clear hr hsz hb1 hok
    go_wp2_with fail
    refine (implPack_any ps A n c _ _ _ (Nat.le_refl _) (by omega) HZ.out HR.out).mono ?_
    rintro e w2 ⟨hb2, B2, m2, d2, ho2, rfl⟩
    have HB2 := Lib.hid (bel_tr HB1.out (Nat.le_refl _) hb2)
    have HR2 := Lib.hid (HR.out.below hb2 (Nat.le_refl _))
    have hs2 := hb2.size
    have HO2 := Lib.hid ho2.rd
    rw [← HOK.out]
    clear hb2 ho2
    go_wp2_with fail
    refine (specPack_any ps A n c _ _ _ hs2 (by omega) HZ.out HR2.out).mono ?_
    rintro e w3 ⟨hb3, B3, m3, d3, ho3, rfl⟩
    have HB3 := Lib.hid (bel_tr HB2.out (Nat.le_refl _) hb3)
    have HR3 := Lib.hid (HR2.out.below hb3 hs2)
    have HO23 := Lib.hid (HO2.out.below hb3 (Nat.le_refl _))
    have hs3 := hb3.size
    obtain rfl : m2 = m3 := by have h1 := HO2.out.len.1; have h2 := ho3.rd.len.1; rw [h1, h2]
    have HO3 := Lib.hid ho3.rd
    have HM := Lib.hid HO2.out.len.1
    rw [← HOK.out]
    clear hb3 ho3 HO2 HR2 HR
    go_wp2_with fail
    refine (sameObjects_any (packL ps) B2 B3 m2 d2 d3 _ _ _ _ _ hs3 (Nat.le_refl _) HO23.out HO3.out).mono ?_
    rintro e w4 ⟨rfl, hb4⟩
    have HB4 := Lib.hid (bel_tr HB3.out (Nat.le_refl _) hb4)
    have HR4 := Lib.hid (HR3.out.below hb4 (by omega))
    have HO24 := Lib.hid (HO23.out.below hb4 hs3)
    have HO34 := Lib.hid (HO3.out.below hb4 (Nat.le_refl _))
    have hs4 := hb4.size
    clear hb4 HR3 HO23 HO3
    rcases ok with _ | _
    · go_wp2_with fail
      refine (sameObjects_any (packL ps) B2 B3 m2 d2 d3 _ _ _ _ _ (by omega) hs4 HO24.out HO34.out).mono ?_
      rintro e w5 ⟨rfl, hb5⟩
      have HB5 := Lib.hid (bel_tr HB4.out (Nat.le_refl _) hb5)
      clear hb5
      go_wp2_with fail
      go_ret
      exact ⟨rfl, HB5.out⟩
    · have hmn : m2 = n := by
        have h1 := HM.out
        have h2 : (packL ps).length = ps.length := by rw [packL_yes HOK.out.symm, packTo_len]
        rw [h1, h2, HN.out]
      subst hmn
      have HLB : Hid (linkB ps = true) := (packB_and HOK.out.symm).2.1
      have HDP : Hid (∀ k, k < m2 → depP ps k ≤ 2) := fun k hk => by
        have h1 := (allTo_iff _ _).1 (packB_and HOK.out.symm).2.2.1 k (by rw [← HN.out]; exact hk)
        simpa [depOk] using h1
      clear HO34
      go_wp2_with fail
      go_loopw [8] (fun i wr => ∃ k : Nat, k ≤ m2 ∧ i = .int .i64 k ∧ Below w4.heap.size w4 wr) (fun i _ => m2 - (intOf i).toNat)
      case atStart => exact ⟨0, Nat.zero_le _, rfl, Below.refl _ _⟩
      case round =>
        obtain ⟨k, hk, rfl, hb⟩ := hrel
        have HB := Lib.hid hb
        have hws := hb.size
        clear hb
        by_cases hlt : k < m2
        · obtain ⟨b, o, hl, A1, n1, c1, rfl, -, hbh, hc0, hc1, hc2, ⟨hn1, hm1, hr1⟩, ht⟩ := rd_Object (HO24.out.below HB.out (by omega)) hlt
          have HR1 := Lib.hid hr1
          have HV := Lib.hid (packL_obj_at hl)
          have hd2 := HDP.out k hlt
          obtain ⟨dp, hdp⟩ : ∃ dp, dp = depP ps k := ⟨_, rfl⟩
          rw [← hdp] at hd2
          have HDK := Lib.hid hdp
          have hg1 : (0 : Int) ≤ dp := by omega
          have hg2 : (dp : Int) ≤ 2 := by omega
          clear hr1 hdp
          go_wp2_with fail
          refine (implObjValid_any (packL ps)[k].kind (packL ps)[k].links (packL ps)[k].text A1 n1 c1 _ _ _ (by omega) ht HR1.out).mono ?_
          rintro e w5 ⟨rfl, hb5⟩
          have HB5 := Lib.hid (bel_tr HB.out (Nat.le_refl _) hb5)
          have hs5 := hb5.size
          rw [HV.out]
          clear hb5
          go_wp2_with fail
          refine (packDepth_any ps A m2 c k _ w.heap.size w1.heap.size (by omega) (by omega) (HR4.out.below HB5.out (by omega)) HLB.out hlt).mono ?_
          rintro e w6 ⟨rfl, hb6⟩
          have HB6 := Lib.hid (bel_tr HB5.out (Nat.le_refl _) hb6)
          have hs6 := hb6.size
          rw [← HDK.out]
          clear hb6
          go_wp2_with fail
          refine (packDepth_any ps A m2 c k _ w.heap.size w1.heap.size (by omega) (by omega) (HR4.out.below HB6.out (by omega)) HLB.out hlt).mono ?_
          rintro e w7 ⟨rfl, hb7⟩
          have HB7 := Lib.hid (bel_tr HB6.out (Nat.le_refl _) hb7)
          rw [← HDK.out]
          clear hb7
          go_wp2_with fail
          exact ⟨⟨k + 1, by omega, by go_num, HB7.out⟩, by simp [intOf]; omega⟩
        · have hkn : k = m2 := by omega
          subst hkn
          go_wp2_with fail
          go_ret
          exact ⟨ret_bool (by simp), bel_tr HB4.out (Nat.le_refl _) HB.out⟩

set_option linter.unusedVariables false
set_option maxRecDepth 100000 in
theorem lifted (os : Os) (started : os.Started) (H : Type) (enc : TypeId × Value → H) :
    ReturnsInHanded {} Try.checked os 5 .any (Rows.fnPackObjectsSpec.pre6 enc Try.prog Try.f5 Rows.fnPackObjectsRow.domain false) (Rows.fnPackObjectsSpec.post enc Try.prog Try.f5 false true false false) := by
  refine returnsInHanded_of_change (C := Try.checked) Try.own started (by kernel_rfl) Try.func5
    (ChangeSpec.witness6 (enc := enc) (C := Try.checked) false ⟨#[], #[.slice none 0 0], []⟩ 8 (by kernel_rfl) (by kernel_rfl) (by kernel_rfl) (by kernel_rfl)) ?_
  intro W base args ds gs before hval0 hW hcnd _
  have hval : ∀ (j : Nat) t v, Try.f5.params[j]? = some t → args[j]? = some v → Value.okWide Try.prog W .any base t v := hval0
  have hW' := hW
  obtain ⟨p, q, hA0, hV, rfl, hfz, hnd⟩ := hW
  have hA : DataW.TrodAll enc Try.prog W 0 (fun _ => true) true Try.f5.params.toList args.toList ds p := hA0
  rw [Try.params5] at hA hval
  obtain ⟨v0, vs0, d0, ds0, p0, q0, hargs, rfl, rfl, h0, r0⟩ := trodAll_cons hA
  obtain ⟨rfl, rfl, rfl⟩ := trodAll_nil r0
  obtain rfl : args = #[v0] := by cases args; simp_all
  obtain ⟨rfl, rfl⟩ := trodVars_none hV
  have k0 := h0
  have lt0 : ∀ x ∈ p0, x.block < W.heap.size := by obtain ⟨m, hm⟩ := k0; exact DataW.trod_lt m _ _ _ hm
  obtain ⟨a0, len0, cap0, rfl⟩ := okWide_slice Try.underlying29 (hval 0 29 v0 rfl rfl)
  obtain ⟨z0, w0⟩ := open_row (k := .u8) Try.underlying29 Try.underlying5 (by kernel_rfl) h0 (fun _ => rfl)
  clear hA0 hval0
  refine (walk a0 len0 cap0 z0 W w0).mono fun e W' ⟨he, bel⟩ => ?_
  subst he
  exact ⟨_, rfl, _, _, _, [], _, [], hW', trodAll_mk1 (shut_bool Try.underlying4 _), (trodAll_cons_mk (Below.trod Try.laidOut (by kernel_rfl) (of_decide_eq_true (by kernel_rfl)) k0 bel lt0) trodAll_mk0), rfl, bel.frame _, fun h => by cases h⟩

theorem proved : Rows.FnPackObjectsSaid :=
  OpenClaim.holds_of_wide 5 Try.f5 rfl rfl rfl rfl rfl rfl rfl ⟨rfl, rfl, rfl, rfl, rfl⟩ rfl rfl rfl rfl rfl (by kernel_rfl) Try.func5 (by kernel_rfl)
    (of_decide_eq_true (by kernel_rfl)) (by unfold Func.isWrapper; first | (rw [if_pos (by decide +kernel)]; kernel_rfl) | (rw [if_neg (by decide +kernel)]; exact ⟨rfl, rfl⟩))
    (fun os started H enc _ => lifted os started H enc)

#print axioms proved
end Go.Proofs.Ytegfdckejncbdaa.fnPackObjects
