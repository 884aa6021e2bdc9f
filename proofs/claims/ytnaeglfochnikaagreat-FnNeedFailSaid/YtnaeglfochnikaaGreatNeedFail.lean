/-
  For every code: what is not complete is not sent; what is sent is as the reference tells. No condition.
-/
import Derived.Test.YtnaeglfochnikaaGreatZ20
import Derived.Test.YtnaeglfochnikaaGreatZ12
import Derived.Test.YtnaeglfochnikaaGreatFPack
import Derived.Test.YtnaeglfochnikaaGreatZ19
namespace Go.Proofs.YtnaeglfochnikaaGreat.fnNeedFail
set_option linter.unusedVariables false
set_option linter.unusedSimpArgs false
open Go.ChangeShapes Go.WideShapes Go.ChangeAt Go.RowKit

set_option maxRecDepth 100000 in
set_option maxHeartbeats 3200000 in
theorem walk (a0 : Option Addr) (len0 cap0 : Nat) (z0 : List Int) (w : World) (w0 : IsRow .u8 w a0 len0 cap0 z0) (mx : Int) (hmx : w.cell? ⟨0, 0, none⟩ = some (.int .i64 mx)) :
    Calls Tryz.prog 4 #[.slice a0 len0 cap0] w fun e w' => e = .returned (.bool true) ∧ Below w.heap.size w w' := by
  have hn := w0.bd
  have HI := Lib.hid w0
  have HMX := Lib.hid hmx
  have hgw : 0 < w.heap.size := World.block_lt_of_cell? _ _ hmx
  clear w0 hmx
  by_cases hbig : 1048576 < len0
  · go_enter Tryz.func4, Tryz.ntmps4
    go_wp2
    go_ret
    exact ⟨rfl, Below.refl _ _⟩
  have hs_len0 : len0 ≤ 1048576 := by omega
  clear hbig
  go_enter Tryz.func4, Tryz.ntmps4
  go_wp2_with fail
  refine (drawFet_any _ _ _ z0 _ HI.out).mono ?_
  rintro e w1 ⟨os, ws, hs, A, n, c, F, m, d, G, k, e9, ho, hf, hg, hn17, hm, hk, hv, hb1, rfl⟩
  have HB1 := Lib.hid hb1
  have HO1 := Lib.hid ho
  have HF1 := Lib.hid hf
  have HG1 := Lib.hid hg
  have hs1 := hb1.size
  clear ho hf hg hv hb1
  go_wp2_with fail
  refine (implFetch_any os ws hs A n c F m d G k e9 w1 w.heap.size w1.heap.size (Nat.le_refl _) (by omega) (by omega) HO1.out HF1.out.ints HG1.out.ints).mono ?_
  rintro e w2 ⟨v2, hown2, hb2, rfl⟩
  have HB2 := Lib.hid (bel_tr HB1.out (Nat.le_refl _) hb2)
  have HO2 := Lib.hid (HO1.out.below hb2 (Nat.le_refl _))
  have HF2 := Lib.hid (HF1.out.below hb2 (Nat.le_refl _))
  have HG2 := Lib.hid (HG1.out.below hb2 (Nat.le_refl _))
  have hs2 := hb2.size
  clear hb2 HO1 HF1 HG1
  obtain ⟨ys, hys⟩ : ∃ z, z = if okF os ws hs = true then needL (getO os) ws hs else [] := ⟨_, rfl⟩
  have HYS := Lib.hid hys
  rw [← hys] at hown2
  obtain ⟨A2, c2, rfl, -, -, hrd2⟩ := Rd.of_own hown2
  have HY2 : Hid (Ints w2 w1.heap.size w2.heap.size A2 ys.length ys) := Lib.hid ⟨rfl, hrd2⟩
  have hyl : ys.length ≤ 991 := by rw [hys]; split <;> first | exact needL_len _ _ _ | simp
  clear hys hown2 hrd2
  go_wp2_with fail
  refine (specFetch_any os ws hs A n c F m d G k e9 w2 w.heap.size w1.heap.size (by omega) (by omega) (by omega) HO2.out HF2.out.ints HG2.out.ints).mono ?_
  rintro e w3 ⟨v3, hown3, hb3, rfl⟩
  have HB3 := Lib.hid (bel_tr HB2.out (Nat.le_refl _) hb3)
  have HO3 := Lib.hid (HO2.out.below hb3 (by omega))
  have HF3 := Lib.hid (HF2.out.below hb3 (by omega))
  have HG3 := Lib.hid (HG2.out.below hb3 (by omega))
  have HY3 := Lib.hid (HY2.out.below hb3 (Nat.le_refl _))
  have hs3 := hb3.size
  rw [← HYS.out] at hown3
  obtain ⟨A3, c3, rfl, -, -, hrd3⟩ := Rd.of_own hown3
  have HZ3 : Hid (Ints w3 w2.heap.size w3.heap.size A3 ys.length ys) := Lib.hid ⟨rfl, hrd3⟩
  clear hb3 hown3 hrd3 HO2 HF2 HG2 HY2
  obtain ⟨ok, hok⟩ : ∃ z, z = okF os ws hs := ⟨_, rfl⟩
  have HOK := Lib.hid hok
  rw [← hok]
  clear hok HYS
  have hne : (ok != ok) = false := by simp
  have hee : (ok == ok) = true := by simp
  go_wp2_with fail
  refine (sameInts_any A2 A3 ys.length c2 c3 ys w3 w1.heap.size w2.heap.size w2.heap.size w3.heap.size (by omega) HY3.out HZ3.out).mono ?_
  rintro e w4 ⟨rfl, q4, hw4⟩
  have hb4 : Below w3.heap.size w3 w4 := by rw [hw4]; exact bel_drewQ w3 q4
  have HB4 := Lib.hid (bel_tr HB3.out (Nat.le_refl _) hb4)
  have HO4 := Lib.hid (HO3.out.below hb4 (by omega))
  have HF4 := Lib.hid (HF3.out.below hb4 (by omega))
  have HG4 := Lib.hid (HG3.out.below hb4 (by omega))
  have HY4 := Lib.hid (HY3.out.below hb4 (by omega))
  have HZ4 := Lib.hid (HZ3.out.below hb4 (Nat.le_refl _))
  have hs4 := hb4.size
  clear hw4 hb4 HO3 HF3 HG3 HY3 HZ3
  go_wp2_with fail
  refine (specStoreValid_any os A n c w4 w.heap.size w1.heap.size (by omega) HO4.out).mono ?_
  rintro e w5 ⟨rfl, hb5⟩
  have HB5 := Lib.hid (bel_tr HB4.out (Nat.le_refl _) hb5)
  have HO5 := Lib.hid (HO4.out.below hb5 (by omega))
  have HF5 := Lib.hid (HF4.out.below hb5 (by omega))
  have HG5 := Lib.hid (HG4.out.below hb5 (by omega))
  have HY5 := Lib.hid (HY4.out.below hb5 (by omega))
  have HZ5 := Lib.hid (HZ4.out.below hb5 (by omega))
  have hs5 := hb5.size
  clear hb5 HO4 HF4 HG4 HY4 HZ4
  rcases hsv : storeB os with _ | _
  · clear hsv
    go_wp2_with fail
    refine (sameInts_any A2 A3 ys.length c2 c3 ys w5 w1.heap.size w2.heap.size w2.heap.size w3.heap.size (by omega) HY5.out HZ5.out).mono ?_
    rintro e w6 ⟨rfl, q6, rfl⟩
    go_wp2_with fail
    go_ret
    exact ⟨rfl, bel_tr HB5.out (Nat.le_refl _) (bel_drewQ w5 _)⟩
  clear hsv
  by_cases hm4 : 4 < m
  · have hm4i : (4 : Int) < (m : Int) := by omega
    go_wp2_with fail
    refine (sameInts_any A2 A3 ys.length c2 c3 ys w5 w1.heap.size w2.heap.size w2.heap.size w3.heap.size (by omega) HY5.out HZ5.out).mono ?_
    rintro e w6 ⟨rfl, q6, rfl⟩
    go_wp2_with fail
    go_ret
    exact ⟨rfl, bel_tr HB5.out (Nat.le_refl _) (bel_drewQ w5 _)⟩
  have hm4i : ¬ ((4 : Int) < (m : Int)) := by omega
  by_cases hk4 : 4 < k
  · have hk4i : (4 : Int) < (k : Int) := by omega
    go_wp2_with fail
    refine (sameInts_any A2 A3 ys.length c2 c3 ys w5 w1.heap.size w2.heap.size w2.heap.size w3.heap.size (by omega) HY5.out HZ5.out).mono ?_
    rintro e w6 ⟨rfl, q6, rfl⟩
    go_wp2_with fail
    go_ret
    exact ⟨rfl, bel_tr HB5.out (Nat.le_refl _) (bel_drewQ w5 _)⟩
  have hk4i : ¬ ((4 : Int) < (k : Int)) := by omega
  go_wp2_with fail
  refine (implFPack_any os ws hs A n c F m d G k e9 mx w5 w.heap.size w1.heap.size (by omega) (by omega) (by omega) ((HB5.out.cell hgw).trans HMX.out) HO5.out HF5.out.ints HG5.out.ints).mono ?_
  rintro e w6 ⟨B6, q6, -, hb6, rfl⟩
  obtain ⟨l6, hl6⟩ : ∃ z, z = (fpackL os ws hs).length := ⟨_, rfl⟩
  rw [← HOK.out, ← hl6]
  have HB6 := Lib.hid (bel_tr HB5.out (Nat.le_refl _) hb6)
  have HO6 := Lib.hid (HO5.out.below hb6 (by omega))
  have HF6 := Lib.hid (HF5.out.below hb6 (by omega))
  have HG6 := Lib.hid (HG5.out.below hb6 (by omega))
  have hs6 := hb6.size
  clear hb6 hl6 HO5 HF5 HG5 HY5 HZ5
  go_wp2_with fail
  refine (ascG_any F m d ws w6 w.heap.size w1.heap.size (by omega) HF6.out.ints).mono ?_
  rintro e w7 ⟨rfl, q7, hw7⟩
  have hb7 : Below w6.heap.size w6 w7 := by rw [hw7]; exact bel_drewQ w6 q7
  have HB7 := Lib.hid (bel_tr HB6.out (Nat.le_refl _) hb7)
  have HO7 := Lib.hid (HO6.out.below hb7 (by omega))
  have HF7 := Lib.hid (HF6.out.below hb7 (by omega))
  have HG7 := Lib.hid (HG6.out.below hb7 (by omega))
  have hs7 := hb7.size
  clear hw7 hb7 HO6 HF6 HG6
  rcases haw : ascB ws with _ | _
  · have hof : ok = false := by rw [HOK.out]; exact okF_no2 (links_asc haw)
    subst hof
    clear haw
    go_wp2_with fail
    go_ret
    exact ⟨rfl, HB7.out⟩
  clear haw
  go_wp2_with fail
  refine (ascG_any G k e9 hs w7 w.heap.size w1.heap.size (by omega) HG7.out.ints).mono ?_
  rintro e w8 ⟨rfl, q8, hw8⟩
  have hb8 : Below w7.heap.size w7 w8 := by rw [hw8]; exact bel_drewQ w7 q8
  have HB8 := Lib.hid (bel_tr HB7.out (Nat.le_refl _) hb8)
  have HO8 := Lib.hid (HO7.out.below hb8 (by omega))
  have HF8 := Lib.hid (HF7.out.below hb8 (by omega))
  have hs8 := hb8.size
  clear hw8 hb8 HO7 HF7 HG7
  rcases hah : ascB hs with _ | _
  · have hof : ok = false := by rw [HOK.out]; exact okF_no3 (links_asc hah)
    subst hof
    clear hah
    go_wp2_with fail
    go_ret
    exact ⟨rfl, HB8.out⟩
  clear hah
  rcases ok with _ | _
  · go_wp2_with fail
    go_ret
    exact ⟨rfl, HB8.out⟩
  have HST : Hid (stoMis os ws = []) := Lib.hid (by
    obtain ⟨h1, h2, h3⟩ := okF_and HOK.out.symm
    unfold fromB at h1
    rw [Bool.and_eq_true] at h1
    rw [stoMis_yes h1.1 h1.2, h3])
  go_wp2_with fail
  refine (implStoMissing_any os ws A n c F m d w8 w.heap.size w1.heap.size w.heap.size w1.heap.size (by omega) (by omega) (by omega) HO8.out HF8.out).mono ?_
  rintro e w9 ⟨A9, c9, -, hb9, rfl⟩
  have HB9 := Lib.hid (bel_tr HB8.out (Nat.le_refl _) hb9)
  rw [HST.out]
  clear hb9
  go_wp2_with fail
  go_ret
  exact ⟨rfl, HB9.out⟩

set_option linter.unusedVariables false
set_option maxRecDepth 100000 in
theorem lifted (os : Os) (started : os.Started) (H : Type) (enc : TypeId × Value → H) :
    ReturnsInHanded {} Tryz.checked os 4 .any (Rows.fnNeedFailSpec.pre6 enc Tryz.prog Tryz.f4 Rows.fnNeedFailRow.domain false) (Rows.fnNeedFailSpec.post enc Tryz.prog Tryz.f4 false true false false) := by
  refine returnsInHanded_of_change_shaped (C := Tryz.checked) Tryz.own started (by kernel_rfl) Tryz.func4
    (ChangeSpec.witness6 (enc := enc) (C := Tryz.checked) false ⟨#[], #[.slice none 0 0], []⟩ 8 (by kernel_rfl) (by kernel_rfl) (by kernel_rfl) (by kernel_rfl)) ?_
  intro W base args ds gs before hval0 hW hcnd _ hsh _
  obtain ⟨mx, hmx⟩ := Tryz.maxlen W hsh
  have hval : ∀ (j : Nat) t v, Tryz.f4.params[j]? = some t → args[j]? = some v → Value.okWide Tryz.prog W .any base t v := hval0
  have hW' := hW
  obtain ⟨p, q, hA0, hV, rfl, hfz, hnd⟩ := hW
  have hA : DataW.TrodAll enc Tryz.prog W 0 (fun _ => true) true Tryz.f4.params.toList args.toList ds p := hA0
  rw [Tryz.params4] at hA hval
  obtain ⟨v0, vs0, d0, ds0, p0, q0, hargs, rfl, rfl, h0, r0⟩ := trodAll_cons hA
  obtain ⟨rfl, rfl, rfl⟩ := trodAll_nil r0
  obtain rfl : args = #[v0] := by cases args; simp_all
  obtain ⟨rfl, rfl⟩ := trodVars_none hV
  have k0 := h0
  have lt0 : ∀ x ∈ p0, x.block < W.heap.size := by obtain ⟨m, hm⟩ := k0; exact DataW.trod_lt m _ _ _ hm
  obtain ⟨a0, len0, cap0, rfl⟩ := okWide_slice Tryz.underlying38 (hval 0 38 v0 rfl rfl)
  obtain ⟨z0, w0⟩ := open_row (k := .u8) Tryz.underlying38 Tryz.underlying5 (by kernel_rfl) h0 (fun _ => rfl)
  clear hA0 hval0
  refine (walk a0 len0 cap0 z0 W w0 mx hmx).mono fun e W' ⟨he, bel⟩ => ?_
  subst he
  exact ⟨_, rfl, _, _, _, [], _, [], hW', trodAll_mk1 (shut_bool Tryz.underlying4 _), (trodAll_cons_mk (Below.trod Tryz.laidOut (by kernel_rfl) (of_decide_eq_true (by kernel_rfl)) k0 bel lt0) trodAll_mk0), rfl, bel.frame _, fun h => by cases h⟩

theorem proved : Rows.FnNeedFailSaid :=
  OpenClaim.holds_of_wide 4 Tryz.f4 rfl rfl rfl rfl rfl rfl rfl ⟨rfl, rfl, rfl, rfl, rfl⟩ rfl rfl rfl rfl rfl (by kernel_rfl) Tryz.func4 (by kernel_rfl)
    (of_decide_eq_true (by kernel_rfl)) (by unfold Func.isWrapper; first | (rw [if_pos (by decide +kernel)]; kernel_rfl) | (rw [if_neg (by decide +kernel)]; exact ⟨rfl, rfl⟩))
    (fun os started H enc _ => lifted os started H enc)

#print axioms proved

end Go.Proofs.YtnaeglfochnikaaGreat.fnNeedFail
