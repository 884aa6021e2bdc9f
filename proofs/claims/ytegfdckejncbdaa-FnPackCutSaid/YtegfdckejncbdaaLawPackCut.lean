/-
  For every code: the first entries of a pack are a pack, with the first objects. No condition.
-/
import Derived.Test.YtegfdckejncbdaaCutP
namespace Go.Proofs.Ytegfdckejncbdaa.fnPackCut
set_option linter.unusedVariables false
set_option linter.unusedSimpArgs false
open Go.ChangeShapes Go.WideShapes Go.ChangeAt Go.RowKit

set_option maxHeartbeats 3200000 in
set_option maxRecDepth 100000 in
theorem walk (a0 : Option Addr) (len0 cap0 : Nat) (z0 : List Int) (a1 : Option Addr) (len1 cap1 : Nat) (z1 : List Int) (w : World) (w0 : IsRow .u8 w a0 len0 cap0 z0) (w1 : IsRow .u8 w a1 len1 cap1 z1) :
    Calls Try.prog 4 #[.slice a0 len0 cap0, .slice a1 len1 cap1] w fun e w' => e = .returned (.bool true) ∧ Below w.heap.size w w' := by
  have hn := w0.bd
  have hm := w1.bd
  have HI := Lib.hid w0
  clear w0 w1
  by_cases hbig : 1048576 < len0
  · go_enter Try.func4, Try.ntmps4
    go_wp2
    go_ret
    exact ⟨rfl, Below.refl _ _⟩
  by_cases hbig1 : 1048576 < len1
  · go_enter Try.func4, Try.ntmps4
    go_wp2
    go_ret
    exact ⟨rfl, Below.refl _ _⟩
  · have hs_len0 : len0 ≤ 1048576 := by omega
    have hs_len1 : len1 ≤ 1048576 := by omega
    clear hbig hbig1
    go_enter Try.func4, Try.ntmps4
    go_wp2_with fail
    refine (drawPackObjects_any _ _ _ z0 _ HI.out).mono ?_
    rintro e w1 ⟨ps, A, n, c, hr, hn17, hsz, hb1, rfl⟩
    have HR := Lib.hid hr
    have HN := Lib.hid hr.len.1
    have HZ := Lib.hid hsz
    have HB1 := Lib.hid hb1
    obtain ⟨ok, hok⟩ : ∃ ok, ok = packB ps := ⟨_, rfl⟩
    have HOK := Lib.hid hok
    have hq : (ok != ok) = false := by simp
    have hq2 : (ok == ok) = true := by simp
    clear hr hsz hb1 hok
    go_wp2_with fail
    refine (implPack_any ps A n c _ _ _ (Nat.le_refl _) (by omega) HZ.out HR.out).mono ?_
    rintro e w2 ⟨hb2, B2, m2, d2, ho2, rfl⟩
    have HB2 := Lib.hid (bel_tr HB1.out (Nat.le_refl _) hb2)
    have HR2 := Lib.hid (HR.out.below hb2 (Nat.le_refl _))
    have hs2 := hb2.size
    have HO2 := Lib.hid ho2.rd
    rw [← HOK.out]
    clear hb2 ho2
    go_wp2_with fail
    refine (specPack_any ps A n c _ _ _ hs2 (by omega) HZ.out HR2.out).mono ?_
    rintro e w3 ⟨hb3, B3, m3, d3, ho3, rfl⟩
    have HB3 := Lib.hid (bel_tr HB2.out (Nat.le_refl _) hb3)
    have HR3 := Lib.hid (HR2.out.below hb3 hs2)
    have HO23 := Lib.hid (HO2.out.below hb3 (Nat.le_refl _))
    have hs3 := hb3.size
    obtain rfl : m2 = m3 := by have h1 := HO2.out.len.1; have h2 := ho3.rd.len.1; rw [h1, h2]
    have HO3 := Lib.hid ho3.rd
    have HM := Lib.hid HO2.out.len.1
    rw [← HOK.out]
    clear hb3 ho3 HO2 HR2 HR
    go_wp2_with fail
    refine (sameObjects_any (packL ps) B2 B3 m2 d2 d3 _ _ _ _ _ hs3 (Nat.le_refl _) HO23.out HO3.out).mono ?_
    rintro e w4 ⟨rfl, hb4⟩
    have HB4 := Lib.hid (bel_tr HB3.out (Nat.le_refl _) hb4)
    have HR4 := Lib.hid (HR3.out.below hb4 (by omega))
    have HO24 := Lib.hid (HO23.out.below hb4 hs3)
    have HO34 := Lib.hid (HO3.out.below hb4 (Nat.le_refl _))
    have hs4 := hb4.size
    clear hb4 HR3 HO23 HO3
    rcases ok with _ | _
    · go_wp2_with fail
      refine (sameObjects_any (packL ps) B2 B3 m2 d2 d3 _ _ _ _ _ (by omega) hs4 HO24.out HO34.out).mono ?_
      rintro e w5 ⟨rfl, hb5⟩
      have HB5 := Lib.hid (bel_tr HB4.out (Nat.le_refl _) hb5)
      clear hb5
      go_wp2_with fail
      go_ret
      exact ⟨rfl, HB5.out⟩
    · have hmn : m2 = n := by
        have h1 := HM.out
        have h2 : (packL ps).length = ps.length := by rw [packL_yes HOK.out.symm, packTo_len]
        rw [h1, h2, HN.out]
      subst hmn
      have HK : Hid (packB ps = true) := HOK.out.symm
      obtain ⟨k, hk⟩ : ∃ k : Nat, k = len1 % (m2 + 1) := ⟨_, rfl⟩
      have hkm : k ≤ m2 := by have := Nat.mod_lt len1 (show 0 < m2 + 1 by omega); omega
      have hmod : (len1 : Int) % ((m2 : Int) + 1) = (k : Int) := by rw [hk]; exact rfl
      have hnc : m2 ≤ c := by have h9 := HR4.out.len; omega
      have hnd : m2 ≤ d2 := by have h9 := HO24.out.len; omega
      have HRT : Hid (D.rd w4 w.heap.size w1.heap.size (dPackEntrys (ps.take k)) (.slice A k c)) := rd_takePE HR4.out hkm
      have HZT : Hid (D.sz (dPackEntrys (ps.take k)) ≤ 1048576) := Nat.le_trans (sz_takePE ps k) HZ.out
      have HKT : Hid (packB (ps.take k) = true) := packB_take HK.out (by have h9 := HN.out; omega)
      have HLT : Hid (packL (ps.take k) = (packL ps).take k) := packL_take HK.out (by have h9 := HN.out; omega)
      clear hk
      go_wp2_with fail
      refine (implPack_any (ps.take k) A k c _ w.heap.size w1.heap.size (by omega) (by omega) HZT.out HRT.out).mono ?_
      rintro e w5 ⟨hb5, B5, m5, d5, ho5, rfl⟩
      have HB5 := Lib.hid (bel_tr HB4.out (Nat.le_refl _) hb5)
      rw [HLT.out] at ho5
      obtain rfl : m5 = k := by
        have h1 := ho5.rd.len.1
        rw [h1, List.length_take]
        have h2 := HM.out
        omega
      have HO5 := Lib.hid ho5.rd
      have HOT := Lib.hid (rd_takeO (HO24.out.below hb5 (by omega)) hkm)
      have hs5 := hb5.size
      rw [HKT.out]
      clear hb5 ho5
      go_wp2_with fail
      refine (sameObjects_any ((packL ps).take m5) B5 B2 m5 d5 d2 _ _ _ _ _ (Nat.le_refl _) (by omega) HO5.out HOT.out).mono ?_
      rintro e w6 ⟨rfl, hb6⟩
      have HB6 := Lib.hid (bel_tr HB5.out (Nat.le_refl _) hb6)
      clear hb6
      go_wp2_with fail
      go_ret
      exact ⟨rfl, HB6.out⟩

set_option linter.unusedVariables false
set_option maxRecDepth 100000 in
theorem lifted (os : Os) (started : os.Started) (H : Type) (enc : TypeId × Value → H) :
    ReturnsInHanded {} Try.checked os 4 .any (Rows.fnPackCutSpec.pre6 enc Try.prog Try.f4 Rows.fnPackCutRow.domain false) (Rows.fnPackCutSpec.post enc Try.prog Try.f4 false true false false) := by
  refine returnsInHanded_of_change (C := Try.checked) Try.own started (by kernel_rfl) Try.func4
    (ChangeSpec.witness6 (enc := enc) (C := Try.checked) false ⟨#[], #[.slice none 0 0, .slice none 0 0], []⟩ 8 (by kernel_rfl) (by kernel_rfl) (by kernel_rfl) (by kernel_rfl)) ?_
  intro W base args ds gs before hval0 hW hcnd _
  have hval : ∀ (j : Nat) t v, Try.f4.params[j]? = some t → args[j]? = some v → Value.okWide Try.prog W .any base t v := hval0
  have hW' := hW
  obtain ⟨p, q, hA0, hV, rfl, hfz, hnd⟩ := hW
  have hA : DataW.TrodAll enc Try.prog W 0 (fun _ => true) true Try.f4.params.toList args.toList ds p := hA0
  rw [Try.params4] at hA hval
  obtain ⟨v0, vs0, d0, ds0, p0, q0, hargs, rfl, rfl, h0, r0⟩ := trodAll_cons hA
  obtain ⟨v1, vs1, d1, ds1, p1, q1, rfl, rfl, rfl, h1, r1⟩ := trodAll_cons r0
  obtain ⟨rfl, rfl, rfl⟩ := trodAll_nil r1
  obtain rfl : args = #[v0, v1] := by cases args; simp_all
  obtain ⟨rfl, rfl⟩ := trodVars_none hV
  have k0 := h0
  have lt0 : ∀ x ∈ p0, x.block < W.heap.size := by obtain ⟨m, hm⟩ := k0; exact DataW.trod_lt m _ _ _ hm
  obtain ⟨a0, len0, cap0, rfl⟩ := okWide_slice Try.underlying29 (hval 0 29 v0 rfl rfl)
  obtain ⟨z0, w0⟩ := open_row (k := .u8) Try.underlying29 Try.underlying5 (by kernel_rfl) h0 (fun _ => rfl)
  have k1 := h1
  have lt1 : ∀ x ∈ p1, x.block < W.heap.size := by obtain ⟨m, hm⟩ := k1; exact DataW.trod_lt m _ _ _ hm
  obtain ⟨a1, len1, cap1, rfl⟩ := okWide_slice Try.underlying29 (hval 1 29 v1 rfl rfl)
  obtain ⟨z1, w1⟩ := open_row (k := .u8) Try.underlying29 Try.underlying5 (by kernel_rfl) h1 (fun _ => rfl)
  clear hA0 hval0
  refine (walk a0 len0 cap0 z0 a1 len1 cap1 z1 W w0 w1).mono fun e W' ⟨he, bel⟩ => ?_
  subst he
  exact ⟨_, rfl, _, _, _, [], _, [], hW', trodAll_mk1 (shut_bool Try.underlying4 _), (trodAll_cons_mk (Below.trod Try.laidOut (by kernel_rfl) (of_decide_eq_true (by kernel_rfl)) k0 bel lt0) (trodAll_cons_mk (Below.trod Try.laidOut (by kernel_rfl) (of_decide_eq_true (by kernel_rfl)) k1 bel lt1) trodAll_mk0)), rfl, bel.frame _, fun h => by cases h⟩

theorem proved : Rows.FnPackCutSaid :=
  OpenClaim.holds_of_wide 4 Try.f4 rfl rfl rfl rfl rfl rfl rfl ⟨rfl, rfl, rfl, rfl, rfl⟩ rfl rfl rfl rfl rfl (by kernel_rfl) Try.func4 (by kernel_rfl)
    (of_decide_eq_true (by kernel_rfl)) (by unfold Func.isWrapper; first | (rw [if_pos (by decide +kernel)]; kernel_rfl) | (rw [if_neg (by decide +kernel)]; exact ⟨rfl, rfl⟩))
    (fun os started H enc _ => lifted os started H enc)

#print axioms proved
end Go.Proofs.Ytegfdckejncbdaa.fnPackCut
