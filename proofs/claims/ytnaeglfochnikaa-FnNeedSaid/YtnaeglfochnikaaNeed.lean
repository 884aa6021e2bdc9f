/-
  For every code: what is sent is just what is wanted and not there, in order. No condition.
-/
import Derived.Test.YtnaeglfochnikaaM10
import Derived.Test.YtnaeglfochnikaaM15
import Derived.Test.YtnaeglfochnikaaStoR9
namespace Go.Proofs.Ytnaeglfochnikaa.fnNeed
set_option linter.unusedVariables false
set_option linter.unusedSimpArgs false
open Go.ChangeShapes Go.WideShapes Go.ChangeAt Go.RowKit

set_option maxRecDepth 100000 in
set_option maxHeartbeats 3200000 in
theorem walk (a0 : Option Addr) (len0 cap0 : Nat) (z0 : List Int) (w : World) (w0 : IsRow .u8 w a0 len0 cap0 z0) :
    Calls Try.prog 6 #[.slice a0 len0 cap0] w fun e w' => e = .returned (.bool true) ∧ Below w.heap.size w w' := by
  have hn := w0.bd
  have HI := Lib.hid w0
  clear w0
  by_cases hbig : 1048576 < len0
  · go_enter Try.func6, Try.ntmps6
    go_wp2
    go_ret
    exact ⟨rfl, Below.refl _ _⟩
  have hs_len0 : len0 ≤ 1048576 := by omega
  clear hbig
  go_enter Try.func6, Try.ntmps6
  go_wp2_with fail
  refine (drawFet_any _ _ _ z0 _ HI.out).mono ?_
  rintro e w1 ⟨os, ws, hs, A, n, c, F, m, d, G, k, e9, ho, hf, hg, hn17, hm, hk, hv, hb1, rfl⟩
  have HB1 := Lib.hid hb1
  have HO1 := Lib.hid ho
  have HF1 := Lib.hid hf
  have HG1 := Lib.hid hg
  have hs1 := hb1.size
  clear ho hf hg hv hb1
  go_wp2_with fail
  refine (implFetch_any os ws hs A n c F m d G k e9 w1 w.heap.size w1.heap.size (Nat.le_refl _) (by omega) (by omega) HO1.out HF1.out.ints HG1.out.ints).mono ?_
  rintro e w2 ⟨v2, hown2, hb2, rfl⟩
  have HB2 := Lib.hid (bel_tr HB1.out (Nat.le_refl _) hb2)
  have HO2 := Lib.hid (HO1.out.below hb2 (Nat.le_refl _))
  have HF2 := Lib.hid (HF1.out.below hb2 (Nat.le_refl _))
  have HG2 := Lib.hid (HG1.out.below hb2 (Nat.le_refl _))
  have hs2 := hb2.size
  clear hb2 HO1 HF1 HG1
  obtain ⟨ys, hys⟩ : ∃ z, z = if okF os ws hs = true then needL (getO os) ws hs else [] := ⟨_, rfl⟩
  have HYS := Lib.hid hys
  rw [← hys] at hown2
  obtain ⟨A2, c2, rfl, -, -, hrd2⟩ := Rd.of_own hown2
  have HY2 : Hid (Ints w2 w1.heap.size w2.heap.size A2 ys.length ys) := Lib.hid ⟨rfl, hrd2⟩
  have hyl : ys.length ≤ 991 := by rw [hys]; split <;> first | exact needL_len _ _ _ | simp
  clear hys hown2 hrd2
  go_wp2_with fail
  refine (specFetch_any os ws hs A n c F m d G k e9 w2 w.heap.size w1.heap.size (by omega) (by omega) (by omega) HO2.out HF2.out.ints HG2.out.ints).mono ?_
  rintro e w3 ⟨v3, hown3, hb3, rfl⟩
  have HB3 := Lib.hid (bel_tr HB2.out (Nat.le_refl _) hb3)
  have HO3 := Lib.hid (HO2.out.below hb3 (by omega))
  have HF3 := Lib.hid (HF2.out.below hb3 (by omega))
  have HG3 := Lib.hid (HG2.out.below hb3 (by omega))
  have HY3 := Lib.hid (HY2.out.below hb3 (Nat.le_refl _))
  have hs3 := hb3.size
  rw [← HYS.out] at hown3
  obtain ⟨A3, c3, rfl, -, -, hrd3⟩ := Rd.of_own hown3
  have HZ3 : Hid (Ints w3 w2.heap.size w3.heap.size A3 ys.length ys) := Lib.hid ⟨rfl, hrd3⟩
  clear hb3 hown3 hrd3 HO2 HF2 HG2 HY2
  rcases hok : okF os ws hs with _ | _
  · clear hok HYS
    go_wp2_with fail
    refine (sameInts_any A2 A3 ys.length c2 c3 ys w3 w1.heap.size w2.heap.size w2.heap.size w3.heap.size (by omega) HY3.out HZ3.out).mono ?_
    rintro e w4 ⟨rfl, q4, rfl⟩
    have HY4 : Hid (Ints (w3.drewN q4) w1.heap.size w2.heap.size A2 ys.length ys) := Lib.hid HY3.out
    have HZ4 : Hid (Ints (w3.drewN q4) w2.heap.size w3.heap.size A3 ys.length ys) := Lib.hid HZ3.out
    go_wp2_with fail
    refine (sameInts_any A2 A3 ys.length c2 c3 ys (w3.drewN q4) w1.heap.size w2.heap.size w2.heap.size w3.heap.size (by omega) HY4.out HZ4.out).mono ?_
    rintro e w5 ⟨rfl, q5, rfl⟩
    go_wp2_with fail
    go_ret
    exact ⟨rfl, bel_tr HB3.out (Nat.le_refl _) (bel_drewQ w3 _)⟩
  have HOK := Lib.hid hok
  have HYN : Hid (ys = needL (getO os) ws hs) := Lib.hid (by rw [HYS.out, if_pos hok])
  clear hok HYS
  go_wp2_with fail
  refine (sameInts_any A2 A3 ys.length c2 c3 ys w3 w1.heap.size w2.heap.size w2.heap.size w3.heap.size (by omega) HY3.out HZ3.out).mono ?_
  rintro e w4 ⟨rfl, q4, hw4⟩
  have hb4 : Below w3.heap.size w3 w4 := by rw [hw4]; exact bel_drewQ w3 q4
  have HB4 := Lib.hid (bel_tr HB3.out (Nat.le_refl _) hb4)
  have HO4 := Lib.hid (HO3.out.below hb4 (by omega))
  have HF4 := Lib.hid (HF3.out.below hb4 (by omega))
  have HG4 := Lib.hid (HG3.out.below hb4 (by omega))
  have HY4 := Lib.hid (HY3.out.below hb4 (by omega))
  have hs4 := hb4.size
  clear hw4 hb4 HO3 HF3 HG3 HY3 HZ3
  go_wp2_with fail
  refine (implStoReach_any os ws A n c F m d w4 w.heap.size w1.heap.size w.heap.size w1.heap.size (by omega) (by omega) (by omega) HO4.out HF4.out).mono ?_
  rintro e w5 ⟨A5, c5, hr5, hb5, rfl⟩
  obtain ⟨f1, f2, f3⟩ := okF_and HOK.out
  have HSW : Hid (stoRea os ws = stoL (getO os) ws) := Lib.hid (by unfold fromB at f1; rw [Bool.and_eq_true] at f1; exact stoRea_yes f1.1 f1.2)
  have HSH : Hid (stoRea os hs = stoL (getO os) hs) := Lib.hid (by unfold fromB at f2; rw [Bool.and_eq_true] at f2; exact stoRea_yes f2.1 f2.2)
  rw [HSW.out] at hr5
  rw [HSW.out]
  have HS5 := Lib.hid hr5.ints
  have HB5 := Lib.hid (bel_tr HB4.out (Nat.le_refl _) hb5)
  have HO5 := Lib.hid (HO4.out.below hb5 (by omega))
  have HG5 := Lib.hid (HG4.out.below hb5 (by omega))
  have HY5 := Lib.hid (HY4.out.below hb5 (by omega))
  have hs5 := hb5.size
  clear hr5 hb5 f1 f2 f3 HO4 HF4 HG4 HY4
  go_wp2_with fail
  refine (implStoReach_any os hs A n c G k e9 w5 w.heap.size w1.heap.size w.heap.size w1.heap.size (by omega) (by omega) (by omega) HO5.out HG5.out).mono ?_
  rintro e w6 ⟨A6, c6, hr6, hb6, rfl⟩
  rw [HSH.out] at hr6
  rw [HSH.out]
  have HT6 := Lib.hid hr6.ints
  have HB6 := Lib.hid (bel_tr HB5.out (Nat.le_refl _) hb6)
  have HS6 := Lib.hid (HS5.out.below hb6 (Nat.le_refl _))
  have HY6 := Lib.hid (HY5.out.below hb6 (by omega))
  have hs6 := hb6.size
  clear hr6 hb6 HO5 HG5 HY5 HS5
  obtain ⟨S, hS⟩ : ∃ z, z = stoL (getO os) ws := ⟨_, rfl⟩
  obtain ⟨T, hT⟩ : ∃ z, z = stoL (getO os) hs := ⟨_, rfl⟩
  have HNL : Hid (ys = S.filter (fun n => !hasB n T)) := Lib.hid (by rw [hS, hT, HYN.out]; exact (needL_stored (okF_and HOK.out).2.2).symm)
  have HYA : Hid (ys.Pairwise (· < ·)) := Lib.hid (by rw [HYN.out]; exact needL_asc _ _ _)
  have hSl : S.length ≤ 991 := by rw [hS]; exact stoL_len _ _
  have hTl : T.length ≤ 991 := by rw [hT]; exact stoL_len _ _
  rw [← hS] at HS6
  rw [← hT] at HT6
  rw [← hS, ← hT]
  obtain ⟨q, hq⟩ : ∃ z, z = S.length := ⟨_, rfl⟩
  obtain ⟨q9, hq9⟩ : ∃ z, z = T.length := ⟨_, rfl⟩
  have HQ := Lib.hid hq
  rw [← hq] at HS6 hSl
  rw [← hq9] at HT6 hTl
  rw [← hq, ← hq9]
  clear hS hT hq hq9
  go_wp2_with fail
  go_loop [12, 13] (fun u i => ∃ j : Nat, j ≤ q ∧ i = .int .i64 j ∧ u = .int .i64 (((S.take j).filter fun n => !hasB n T).length : Nat)) (fun _ i => q - (intOf i).toNat)
  case atStart => exact ⟨0, Nat.zero_le _, rfl, rfl⟩
  case round =>
    obtain ⟨j, hj, rfl, rfl⟩ := hrel
    obtain ⟨l, hl9⟩ : ∃ z, z = ((S.take j).filter fun n => !hasB n T).length := ⟨_, rfl⟩
    have HLL := Lib.hid hl9
    have hll : l ≤ j := by rw [hl9]; exact Nat.le_trans (List.length_filter_le _ _) (by rw [List.length_take]; exact Nat.min_le_left _ _)
    rw [← hl9]
    clear hl9
    by_cases hlt : j < q
    · obtain ⟨b, o, hl, rfl, _, hbh, hc⟩ := HS6.out.int hlt
      have hbw : b < w6.heap.size := by omega
      have HSN := Lib.hid (filter_snoc (p := fun n => !hasB n T) hl)
      have HIN : Hid (hasB S[j] T = false → hasB S[j] ys = true) := Lib.hid fun h => decide_eq_true (by rw [HNL.out]; exact List.mem_filter.2 ⟨List.getElem_mem hl, by rw [h]; rfl⟩)
      obtain ⟨x, hx⟩ : ∃ x, x = S[j] := ⟨_, rfl⟩
      rw [← hx] at hc HIN HSN
      clear hx
      go_wp2_with fail
      refine (hasInt_any A6 q9 c6 T x w6 _ _ (by omega) HT6.out).mono ?_
      rintro e w7 ⟨rfl, rfl⟩
      rcases hr : hasB x T with _ | _
      · have HE : Hid (((S.take (j + 1)).filter fun n => !hasB n T).length = l + 1) := Lib.hid (by rw [HSN.out, List.length_append, ← HLL.out, hr]; rfl)
        have HX := Lib.hid (HIN.out hr)
        clear hr
        go_wp2_with fail
        refine (hasInt_any A2 ys.length c2 ys x w6 _ _ (by omega) HY6.out).mono ?_
        rintro e w7 ⟨rfl, rfl⟩
        rw [HX.out]
        go_wp2_with fail
        go_round
        case rel => exact ⟨j + 1, by omega, by go_num, by rw [HE.out]; go_num⟩
        case measure => simp [intOf]; omega
      · have HE : Hid (((S.take (j + 1)).filter fun n => !hasB n T).length = l) := Lib.hid (by rw [HSN.out, List.length_append, ← HLL.out, hr]; simp)
        clear hr
        go_wp2_with fail
        go_round
        case rel => exact ⟨j + 1, by omega, by go_num, by rw [HE.out]⟩
        case measure => simp [intOf]; omega
    · have hjq : j = q := by omega
      subst hjq
      have hly : l = ys.length := by rw [HLL.out, HNL.out, List.take_of_length_le (by rw [← HQ.out]; exact Nat.le_refl _)]
      rw [hly]
      have hyy : ((ys.length : Int) == (ys.length : Int)) = true := by simp
      clear hly
      go_wp2_with fail
      refine (ascending_any A2 ys.length c2 ys w6 _ _ (by omega) HY6.out HYA.out).mono ?_
      rintro e w7 ⟨rfl, q7, rfl⟩
      go_wp2_with fail
      go_ret
      exact ⟨rfl, bel_tr HB6.out (Nat.le_refl _) (bel_drewQ w6 q7)⟩

set_option linter.unusedVariables false
set_option maxRecDepth 100000 in
theorem lifted (os : Os) (started : os.Started) (H : Type) (enc : TypeId × Value → H) :
    ReturnsInHanded {} Try.checked os 6 .any (Rows.fnNeedSpec.pre6 enc Try.prog Try.f6 Rows.fnNeedRow.domain false) (Rows.fnNeedSpec.post enc Try.prog Try.f6 false true false false) := by
  refine returnsInHanded_of_change (C := Try.checked) Try.own started (by kernel_rfl) Try.func6
    (ChangeSpec.witness6 (enc := enc) (C := Try.checked) false ⟨#[], #[.slice none 0 0], []⟩ 8 (by kernel_rfl) (by kernel_rfl) (by kernel_rfl) (by kernel_rfl)) ?_
  intro W base args ds gs before hval0 hW hcnd _
  have hval : ∀ (j : Nat) t v, Try.f6.params[j]? = some t → args[j]? = some v → Value.okWide Try.prog W .any base t v := hval0
  have hW' := hW
  obtain ⟨p, q, hA0, hV, rfl, hfz, hnd⟩ := hW
  have hA : DataW.TrodAll enc Try.prog W 0 (fun _ => true) true Try.f6.params.toList args.toList ds p := hA0
  rw [Try.params6] at hA hval
  obtain ⟨v0, vs0, d0, ds0, p0, q0, hargs, rfl, rfl, h0, r0⟩ := trodAll_cons hA
  obtain ⟨rfl, rfl, rfl⟩ := trodAll_nil r0
  obtain rfl : args = #[v0] := by cases args; simp_all
  obtain ⟨rfl, rfl⟩ := trodVars_none hV
  have k0 := h0
  have lt0 : ∀ x ∈ p0, x.block < W.heap.size := by obtain ⟨m, hm⟩ := k0; exact DataW.trod_lt m _ _ _ hm
  obtain ⟨a0, len0, cap0, rfl⟩ := okWide_slice Try.underlying35 (hval 0 35 v0 rfl rfl)
  obtain ⟨z0, w0⟩ := open_row (k := .u8) Try.underlying35 Try.underlying5 (by kernel_rfl) h0 (fun _ => rfl)
  clear hA0 hval0
  refine (walk a0 len0 cap0 z0 W w0).mono fun e W' ⟨he, bel⟩ => ?_
  subst he
  exact ⟨_, rfl, _, _, _, [], _, [], hW', trodAll_mk1 (shut_bool Try.underlying4 _), (trodAll_cons_mk (Below.trod Try.laidOut (by kernel_rfl) (of_decide_eq_true (by kernel_rfl)) k0 bel lt0) trodAll_mk0), rfl, bel.frame _, fun h => by cases h⟩

theorem proved : Rows.FnNeedSaid :=
  OpenClaim.holds_of_wide 6 Try.f6 rfl rfl rfl rfl rfl rfl rfl ⟨rfl, rfl, rfl, rfl, rfl⟩ rfl rfl rfl rfl rfl (by kernel_rfl) Try.func6 (by kernel_rfl)
    (of_decide_eq_true (by kernel_rfl)) (by unfold Func.isWrapper; first | (rw [if_pos (by decide +kernel)]; kernel_rfl) | (rw [if_neg (by decide +kernel)]; exact ⟨rfl, rfl⟩))
    (fun os started H enc _ => lifted os started H enc)

#print axioms proved

end Go.Proofs.Ytnaeglfochnikaa.fnNeed
