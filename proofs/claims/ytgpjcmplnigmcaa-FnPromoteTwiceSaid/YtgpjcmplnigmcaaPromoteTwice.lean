/-
  For every code: QuarantinePromote of a drawn quarantine answers as the reference; an area is promoted once. No condition.
-/
import Derived.Test.YtgpjcmplnigmcaaM13
namespace Go.Proofs.Ytgpjcmplnigmcaa.fnPromoteTwice
set_option linter.unusedVariables false
set_option linter.unusedSimpArgs false
open Go.ChangeShapes Go.WideShapes Go.ChangeAt Go.RowKit

set_option maxRecDepth 100000 in
set_option maxHeartbeats 6400000 in
theorem walk (a0 : Option Addr) (len0 cap0 : Nat) (z0 : List Int) (w : World) (w0 : IsRow .u8 w a0 len0 cap0 z0) :
    Calls Try.prog 6 #[.slice a0 len0 cap0] w fun e w' => e = .returned (.bool true) ∧ Below w.heap.size w w' := by
  have hn := w0.bd
  have HI := Lib.hid w0
  clear w0
  by_cases hbig : 1048576 < len0
  · go_enter Try.func6, Try.ntmps6
    go_wp2
    go_ret
    exact ⟨rfl, Below.refl _ _⟩
  · have hs_len0 : len0 ≤ 1048576 := by omega
    clear hbig
    go_enter Try.func6, Try.ntmps6
    go_wp2_with fail
    refine (drawQPro_any _ _ _ z0 _ HI.out).mono ?_
    rintro e w1 ⟨Q, t, A, n, c, B, m, d, hm, ha, hQ, hb1, rfl⟩
    obtain rfl : n = Q.main.length := hm.len.1
    obtain rfl : m = Q.areas.length := ha.len.1
    have HQ := Lib.hid hQ
    have hq17 : Q.main.length ≤ 17 := hQ.2.1
    have hqa : Q.areas.length ≤ 5 := hQ.2.2.2
    have HB1 := Lib.hid hb1
    obtain ⟨y, hy⟩ : ∃ z, z = w1.heap.size := ⟨_, rfl⟩
    obtain ⟨w2, hw2⟩ : ∃ z, z = w1.alloc (.cells #[.slice A Q.main.length c, .slice B Q.areas.length d] 31) := ⟨_, rfl⟩
    have hb2 : Below w1.heap.size w1 w2 := by rw [hw2]; exact (Below.refl _ _).alloc (Nat.le_refl _) _
    have HVy_2 : Hid (QV w w2 y Q A c B d) := by rw [hw2, hy]; exact Lib.hid (QV.mk_ hm ha)
    have HB2 := Lib.hid (bel_tr HB1.out (Nat.le_refl _) hb2)
    clear hm ha  hQ hb1 hb2
    go_upto_region 4 with (fail)
    rw [← hw2, ← hy]
    clear hw2 hy
    obtain ⟨yc0, yc1, yl⟩ := HVy_2.out.cells
    go_wp2_with fail
    refine (implPromote_any (Q).main (Q).areas t A (Q).main.length c B (Q).areas.length d w2 w.heap.size w2.heap.size (Nat.le_refl _) HVy_2.out.2.1 HVy_2.out.2.2).mono ?_
    rintro e w3 ⟨Au, nu, cu, Bu, mu, du, hqu, hb3, rfl⟩
    obtain ⟨rfl, rfl, hr1, hr2⟩ := hqu.rd2
    obtain ⟨R, hR⟩ : ∃ Z, Z = quaPro ⟨Q.main, Q.areas⟩ t := ⟨_, rfl⟩
    have HR := Lib.hid hR
    rw [← hR] at hr1 hr2
    rw [← hR]
    have HR1 := Lib.hid (hr1.more (lo' := w.heap.size) HB2.out.size (Nat.le_refl _))
    have HR2 := Lib.hid (hr2.more (lo' := w.heap.size) HB2.out.size (Nat.le_refl _))
    clear hqu hr1 hr2 hR
    clear yc0 yc1 yl
    have HB3 := Lib.hid (bel_tr HB2.out (Nat.le_refl _) hb3)
    have HVy_3 := Lib.hid (HVy_2.out.fresh hb3)
    clear hb3
    obtain ⟨u, hu⟩ : ∃ z, z = w3.heap.size := ⟨_, rfl⟩
    obtain ⟨w4, hw4⟩ : ∃ z, z = w3.alloc (.cells #[.slice Au R.main.length cu, .slice Bu R.areas.length du] 31) := ⟨_, rfl⟩
    have hb4 : Below w3.heap.size w3 w4 := by rw [hw4]; exact (Below.refl _ _).alloc (Nat.le_refl _) _
    have HVu_4 : Hid (QV w w4 u R Au cu Bu du) := by rw [hw4, hu]; exact Lib.hid (QV.mk_ HR1.out HR2.out)
    have HB4 := Lib.hid (bel_tr HB3.out (Nat.le_refl _) hb4)
    have HVy_4 := Lib.hid (HVy_3.out.fresh hb4)
    clear hb4
    go_upto_region 5 with (fail)
    rw [← hw4, ← hu]
    clear hw4 hu HR1 HR2
    obtain ⟨yc0, yc1, yl⟩ := HVy_4.out.cells
    obtain ⟨uc0, uc1, ul⟩ := HVu_4.out.cells
    go_wp2_with fail
    refine (specPromote_any (Q).main (Q).areas t A (Q).main.length c B (Q).areas.length d w4 w.heap.size w4.heap.size (Nat.le_refl _) HVy_4.out.2.1 HVy_4.out.2.2).mono ?_
    rintro e w5 ⟨Av, nv, cv, Bv, mv, dv, hqv, hb5, rfl⟩
    obtain ⟨rfl, rfl, hr1, hr2⟩ := hqv.rd2
    have hR := HR.out
    rw [← hR] at hr1 hr2
    rw [← hR]
    have HR1 := Lib.hid (hr1.more (lo' := w.heap.size) HB4.out.size (Nat.le_refl _))
    have HR2 := Lib.hid (hr2.more (lo' := w.heap.size) HB4.out.size (Nat.le_refl _))
    clear hqv hr1 hr2 hR
    clear yc0 yc1 yl uc0 uc1 ul
    have HB5 := Lib.hid (bel_tr HB4.out (Nat.le_refl _) hb5)
    have HVy_5 := Lib.hid (HVy_4.out.fresh hb5)
    have HVu_5 := Lib.hid (HVu_4.out.fresh hb5)
    clear hb5
    obtain ⟨v, hv⟩ : ∃ z, z = w5.heap.size := ⟨_, rfl⟩
    obtain ⟨w6, hw6⟩ : ∃ z, z = w5.alloc (.cells #[.slice Av R.main.length cv, .slice Bv R.areas.length dv] 31) := ⟨_, rfl⟩
    have hb6 : Below w5.heap.size w5 w6 := by rw [hw6]; exact (Below.refl _ _).alloc (Nat.le_refl _) _
    have HVv_6 : Hid (QV w w6 v R Av cv Bv dv) := by rw [hw6, hv]; exact Lib.hid (QV.mk_ HR1.out HR2.out)
    have HB6 := Lib.hid (bel_tr HB5.out (Nat.le_refl _) hb6)
    have HVy_6 := Lib.hid (HVy_5.out.fresh hb6)
    have HVu_6 := Lib.hid (HVu_5.out.fresh hb6)
    clear hb6
    go_upto_region 6 with (fail)
    rw [← hw6, ← hv]
    clear hw6 hv HR1 HR2
    obtain ⟨yc0, yc1, yl⟩ := HVy_6.out.cells
    obtain ⟨uc0, uc1, ul⟩ := HVu_6.out.cells
    obtain ⟨vc0, vc1, vl⟩ := HVv_6.out.cells
    obtain ⟨b, hb⟩ : ∃ b, b = quaProB ⟨Q.main, Q.areas⟩ t := ⟨_, rfl⟩
    have HBB := Lib.hid hb
    rw [← hb]
    clear hb
    rcases b with _ | _
    · go_wp2_with fail
      refine (sameQua_any (R).main (R).areas Au Av (R).main.length cu cv Bu Bv (R).areas.length du dv w6 w.heap.size w6.heap.size w.heap.size w6.heap.size (Nat.le_refl _) (Nat.le_refl _) HVu_6.out.2.1 HVv_6.out.2.1 HVu_6.out.2.2 HVv_6.out.2.2).mono ?_
      rintro e w7 ⟨rfl, hb7⟩
      clear yc0 yc1 yl uc0 uc1 ul vc0 vc1 vl
      have HB7 := Lib.hid (bel_tr HB6.out (Nat.le_refl _) hb7)
      have HVy_7 := Lib.hid (HVy_6.out.fresh hb7)
      have HVu_7 := Lib.hid (HVu_6.out.fresh hb7)
      have HVv_7 := Lib.hid (HVv_6.out.fresh hb7)
      clear hb7
      obtain ⟨yc0, yc1, yl⟩ := HVy_7.out.cells
      obtain ⟨uc0, uc1, ul⟩ := HVu_7.out.cells
      obtain ⟨vc0, vc1, vl⟩ := HVv_7.out.cells
      go_wp2_with fail
      refine (sameQua_any (R).main (R).areas Au Av (R).main.length cu cv Bu Bv (R).areas.length du dv w7 w.heap.size w7.heap.size w.heap.size w7.heap.size (Nat.le_refl _) (Nat.le_refl _) HVu_7.out.2.1 HVv_7.out.2.1 HVu_7.out.2.2 HVv_7.out.2.2).mono ?_
      rintro e w8 ⟨rfl, hb8⟩
      clear yc0 yc1 yl uc0 uc1 ul vc0 vc1 vl
      have HB8 := Lib.hid (bel_tr HB7.out (Nat.le_refl _) hb8)
      have HVy_8 := Lib.hid (HVy_7.out.fresh hb8)
      have HVu_8 := Lib.hid (HVu_7.out.fresh hb8)
      have HVv_8 := Lib.hid (HVv_7.out.fresh hb8)
      clear hb8
      obtain ⟨yc0, yc1, yl⟩ := HVy_8.out.cells
      obtain ⟨uc0, uc1, ul⟩ := HVu_8.out.cells
      obtain ⟨vc0, vc1, vl⟩ := HVv_8.out.cells
      go_wp2_with fail
      go_ret
      exact ⟨rfl, HB8.out⟩
    · have HTW := Lib.hid (quaPro_twice (q := Q) (t := t) HBB.out.symm)
      go_wp2_with fail
      refine (sameQua_any (R).main (R).areas Au Av (R).main.length cu cv Bu Bv (R).areas.length du dv w6 w.heap.size w6.heap.size w.heap.size w6.heap.size (Nat.le_refl _) (Nat.le_refl _) HVu_6.out.2.1 HVv_6.out.2.1 HVu_6.out.2.2 HVv_6.out.2.2).mono ?_
      rintro e w7 ⟨rfl, hb7⟩
      clear yc0 yc1 yl uc0 uc1 ul vc0 vc1 vl
      have HB7 := Lib.hid (bel_tr HB6.out (Nat.le_refl _) hb7)
      have HVy_7 := Lib.hid (HVy_6.out.fresh hb7)
      have HVu_7 := Lib.hid (HVu_6.out.fresh hb7)
      have HVv_7 := Lib.hid (HVv_6.out.fresh hb7)
      clear hb7
      obtain ⟨yc0, yc1, yl⟩ := HVy_7.out.cells
      obtain ⟨uc0, uc1, ul⟩ := HVu_7.out.cells
      obtain ⟨vc0, vc1, vl⟩ := HVv_7.out.cells
      go_wp2_with fail
      refine (implPromote_any (R).main (R).areas t Au (R).main.length cu Bu (R).areas.length du w7 w.heap.size w7.heap.size (Nat.le_refl _) HVu_7.out.2.1 HVu_7.out.2.2).mono ?_
      rintro e w8 ⟨Ax, nx, cx, Bx, mx, dx, hqx, hb8, rfl⟩
      have hE : quaPro ⟨R.main, R.areas⟩ t = R := (by rw [HR.out]; exact HTW.out.2)
      have hF : quaProB ⟨R.main, R.areas⟩ t = false := (by rw [HR.out]; exact HTW.out.1)
      rw [hE] at hqx
      obtain ⟨rfl, rfl, hr1, hr2⟩ := hqx.rd2
      rw [hF]
      clear hE hF
      have HR1 := Lib.hid (hr1.more (lo' := w.heap.size) HB7.out.size (Nat.le_refl _))
      have HR2 := Lib.hid (hr2.more (lo' := w.heap.size) HB7.out.size (Nat.le_refl _))
      clear hqx hr1 hr2
      clear yc0 yc1 yl uc0 uc1 ul vc0 vc1 vl
      have HB8 := Lib.hid (bel_tr HB7.out (Nat.le_refl _) hb8)
      have HVy_8 := Lib.hid (HVy_7.out.fresh hb8)
      have HVu_8 := Lib.hid (HVu_7.out.fresh hb8)
      have HVv_8 := Lib.hid (HVv_7.out.fresh hb8)
      clear hb8
      obtain ⟨x, hx⟩ : ∃ z, z = w8.heap.size := ⟨_, rfl⟩
      obtain ⟨w9, hw9⟩ : ∃ z, z = w8.alloc (.cells #[.slice Ax (R).main.length cx, .slice Bx (R).areas.length dx] 31) := ⟨_, rfl⟩
      have hb9 : Below w8.heap.size w8 w9 := by rw [hw9]; exact (Below.refl _ _).alloc (Nat.le_refl _) _
      have HVx_9 : Hid (QV w w9 x R Ax cx Bx dx) := by rw [hw9, hx]; exact Lib.hid (QV.mk_ HR1.out HR2.out)
      have HB9 := Lib.hid (bel_tr HB8.out (Nat.le_refl _) hb9)
      have HVy_9 := Lib.hid (HVy_8.out.fresh hb9)
      have HVu_9 := Lib.hid (HVu_8.out.fresh hb9)
      have HVv_9 := Lib.hid (HVv_8.out.fresh hb9)
      clear hb9
      go_upto_region 9 with (fail)
      rw [← hw9, ← hx]
      clear hw9 hx HR1 HR2
      obtain ⟨yc0, yc1, yl⟩ := HVy_9.out.cells
      obtain ⟨uc0, uc1, ul⟩ := HVu_9.out.cells
      obtain ⟨vc0, vc1, vl⟩ := HVv_9.out.cells
      obtain ⟨xc0, xc1, xl⟩ := HVx_9.out.cells
      go_wp2_with fail
      refine (sameQua_any (R).main (R).areas Ax Au (R).main.length cx cu Bx Bu (R).areas.length dx du w9 w.heap.size w9.heap.size w.heap.size w9.heap.size (Nat.le_refl _) (Nat.le_refl _) HVx_9.out.2.1 HVu_9.out.2.1 HVx_9.out.2.2 HVu_9.out.2.2).mono ?_
      rintro e w10 ⟨rfl, hb10⟩
      clear yc0 yc1 yl uc0 uc1 ul vc0 vc1 vl xc0 xc1 xl
      have HB10 := Lib.hid (bel_tr HB9.out (Nat.le_refl _) hb10)
      have HVy_10 := Lib.hid (HVy_9.out.fresh hb10)
      have HVu_10 := Lib.hid (HVu_9.out.fresh hb10)
      have HVv_10 := Lib.hid (HVv_9.out.fresh hb10)
      have HVx_10 := Lib.hid (HVx_9.out.fresh hb10)
      clear hb10
      obtain ⟨yc0, yc1, yl⟩ := HVy_10.out.cells
      obtain ⟨uc0, uc1, ul⟩ := HVu_10.out.cells
      obtain ⟨vc0, vc1, vl⟩ := HVv_10.out.cells
      obtain ⟨xc0, xc1, xl⟩ := HVx_10.out.cells
      go_wp2_with fail
      go_ret
      exact ⟨rfl, HB10.out⟩

set_option linter.unusedVariables false
set_option maxRecDepth 100000 in
theorem lifted (os : Os) (started : os.Started) (H : Type) (enc : TypeId × Value → H) :
    ReturnsInHanded {} Try.checked os 6 .any (Rows.fnPromoteTwiceSpec.pre6 enc Try.prog Try.f6 Rows.fnPromoteTwiceRow.domain false) (Rows.fnPromoteTwiceSpec.post enc Try.prog Try.f6 false true false false) := by
  refine returnsInHanded_of_change (C := Try.checked) Try.own started (by kernel_rfl) Try.func6
    (ChangeSpec.witness6 (enc := enc) (C := Try.checked) false ⟨#[], #[.slice none 0 0], []⟩ 8 (by kernel_rfl) (by kernel_rfl) (by kernel_rfl) (by kernel_rfl)) ?_
  intro W base args ds gs before hval0 hW hcnd _
  have hval : ∀ (j : Nat) t v, Try.f6.params[j]? = some t → args[j]? = some v → Value.okWide Try.prog W .any base t v := hval0
  have hW' := hW
  obtain ⟨p, q, hA0, hV, rfl, hfz, hnd⟩ := hW
  have hA : DataW.TrodAll enc Try.prog W 0 (fun _ => true) true Try.f6.params.toList args.toList ds p := hA0
  rw [Try.params6] at hA hval
  obtain ⟨v0, vs0, d0, ds0, p0, q0, hargs, rfl, rfl, h0, r0⟩ := trodAll_cons hA
  obtain ⟨rfl, rfl, rfl⟩ := trodAll_nil r0
  obtain rfl : args = #[v0] := by cases args; simp_all
  obtain ⟨rfl, rfl⟩ := trodVars_none hV
  have k0 := h0
  have lt0 : ∀ x ∈ p0, x.block < W.heap.size := by obtain ⟨m, hm⟩ := k0; exact DataW.trod_lt m _ _ _ hm
  obtain ⟨a0, len0, cap0, rfl⟩ := okWide_slice Try.underlying41 (hval 0 41 v0 rfl rfl)
  obtain ⟨z0, w0⟩ := open_row (k := .u8) Try.underlying41 Try.underlying5 (by kernel_rfl) h0 (fun _ => rfl)
  clear hA0 hval0
  refine (walk a0 len0 cap0 z0 W w0).mono fun e W' ⟨he, bel⟩ => ?_
  subst he
  exact ⟨_, rfl, _, _, _, [], _, [], hW', trodAll_mk1 (shut_bool Try.underlying4 _), (trodAll_cons_mk (Below.trod Try.laidOut (by kernel_rfl) (of_decide_eq_true (by kernel_rfl)) k0 bel lt0) trodAll_mk0), rfl, bel.frame _, fun h => by cases h⟩

theorem proved : Rows.FnPromoteTwiceSaid :=
  OpenClaim.holds_of_wide 6 Try.f6 rfl rfl rfl rfl rfl rfl rfl ⟨rfl, rfl, rfl, rfl, rfl⟩ rfl rfl rfl rfl rfl (by kernel_rfl) Try.func6 (by kernel_rfl)
    (of_decide_eq_true (by kernel_rfl)) (by unfold Func.isWrapper; first | (rw [if_pos (by decide +kernel)]; kernel_rfl) | (rw [if_neg (by decide +kernel)]; exact ⟨rfl, rfl⟩))
    (fun os started H enc _ => lifted os started H enc)

#print axioms proved
end Go.Proofs.Ytgpjcmplnigmcaa.fnPromoteTwice
