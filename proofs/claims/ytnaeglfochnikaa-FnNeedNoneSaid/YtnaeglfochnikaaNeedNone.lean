/-
  For every code: who has all that is wanted is sent nothing; what is sent is as the reference tells. No condition.
-/
import Derived.Test.YtnaeglfochnikaaM10
import Derived.Test.YtnaeglfochnikaaM15
namespace Go.Proofs.Ytnaeglfochnikaa.fnNeedNone
set_option linter.unusedVariables false
set_option linter.unusedSimpArgs false
open Go.ChangeShapes Go.WideShapes Go.ChangeAt Go.RowKit

theorem okF_self {os : List ObjD} {ws hs : List Int} (h : okF os ws hs = true) : okF os ws ws = true := by
  obtain ⟨h1, h2, h3⟩ := okF_and h
  unfold okF
  rw [h1, decide_eq_true h3]; rfl
theorem needL_self (M : Int → Option ObjD) (ws : List Int) : needL M ws ws = [] := by
  unfold needL
  refine List.filter_eq_nil_iff.2 fun n hn => ?_
  unfold hasB
  simp [hn]
set_option maxRecDepth 100000 in
set_option maxHeartbeats 3200000 in
theorem walk (a0 : Option Addr) (len0 cap0 : Nat) (z0 : List Int) (w : World) (w0 : IsRow .u8 w a0 len0 cap0 z0) :
    Calls Try.prog 4 #[.slice a0 len0 cap0] w fun e w' => e = .returned (.bool true) ∧ Below w.heap.size w w' := by
  have hn := w0.bd
  have HI := Lib.hid w0
  clear w0
  by_cases hbig : 1048576 < len0
  · go_enter Try.func4, Try.ntmps4
    go_wp2
    go_ret
    exact ⟨rfl, Below.refl _ _⟩
  have hs_len0 : len0 ≤ 1048576 := by omega
  clear hbig
  go_enter Try.func4, Try.ntmps4
  go_wp2_with fail
  refine (drawFet_any _ _ _ z0 _ HI.out).mono ?_
  rintro e w1 ⟨os, ws, hs, A, n, c, F, m, d, G, k, e9, ho, hf, hg, hn17, hm, hk, hv, hb1, rfl⟩
  have HB1 := Lib.hid hb1
  have HO1 := Lib.hid ho
  have HF1 := Lib.hid hf
  have HG1 := Lib.hid hg
  have hs1 := hb1.size
  clear ho hf hg hv hb1
  go_wp2_with fail
  refine (implFetch_any os ws hs A n c F m d G k e9 w1 w.heap.size w1.heap.size (Nat.le_refl _) (by omega) (by omega) HO1.out HF1.out.ints HG1.out.ints).mono ?_
  rintro e w2 ⟨v2, hown2, hb2, rfl⟩
  have HB2 := Lib.hid (bel_tr HB1.out (Nat.le_refl _) hb2)
  have HO2 := Lib.hid (HO1.out.below hb2 (Nat.le_refl _))
  have HF2 := Lib.hid (HF1.out.below hb2 (Nat.le_refl _))
  have HG2 := Lib.hid (HG1.out.below hb2 (Nat.le_refl _))
  have hs2 := hb2.size
  clear hb2 HO1 HF1 HG1
  obtain ⟨ys, hys⟩ : ∃ z, z = if okF os ws hs = true then needL (getO os) ws hs else [] := ⟨_, rfl⟩
  have HYS := Lib.hid hys
  rw [← hys] at hown2
  obtain ⟨A2, c2, rfl, -, -, hrd2⟩ := Rd.of_own hown2
  have HY2 : Hid (Ints w2 w1.heap.size w2.heap.size A2 ys.length ys) := Lib.hid ⟨rfl, hrd2⟩
  have hyl : ys.length ≤ 991 := by rw [hys]; split <;> first | exact needL_len _ _ _ | simp
  clear hys hown2 hrd2
  go_wp2_with fail
  refine (specFetch_any os ws hs A n c F m d G k e9 w2 w.heap.size w1.heap.size (by omega) (by omega) (by omega) HO2.out HF2.out.ints HG2.out.ints).mono ?_
  rintro e w3 ⟨v3, hown3, hb3, rfl⟩
  have HB3 := Lib.hid (bel_tr HB2.out (Nat.le_refl _) hb3)
  have HO3 := Lib.hid (HO2.out.below hb3 (by omega))
  have HF3 := Lib.hid (HF2.out.below hb3 (by omega))
  have HG3 := Lib.hid (HG2.out.below hb3 (by omega))
  have HY3 := Lib.hid (HY2.out.below hb3 (Nat.le_refl _))
  have hs3 := hb3.size
  rw [← HYS.out] at hown3
  obtain ⟨A3, c3, rfl, -, -, hrd3⟩ := Rd.of_own hown3
  have HZ3 : Hid (Ints w3 w2.heap.size w3.heap.size A3 ys.length ys) := Lib.hid ⟨rfl, hrd3⟩
  clear hb3 hown3 hrd3 HO2 HF2 HG2 HY2
  rcases hok : okF os ws hs with _ | _
  · clear hok HYS
    go_wp2_with fail
    refine (sameInts_any A2 A3 ys.length c2 c3 ys w3 w1.heap.size w2.heap.size w2.heap.size w3.heap.size (by omega) HY3.out HZ3.out).mono ?_
    rintro e w4 ⟨rfl, q4, rfl⟩
    have HY4 : Hid (Ints (w3.drewN q4) w1.heap.size w2.heap.size A2 ys.length ys) := Lib.hid HY3.out
    have HZ4 : Hid (Ints (w3.drewN q4) w2.heap.size w3.heap.size A3 ys.length ys) := Lib.hid HZ3.out
    go_wp2_with fail
    refine (sameInts_any A2 A3 ys.length c2 c3 ys (w3.drewN q4) w1.heap.size w2.heap.size w2.heap.size w3.heap.size (by omega) HY4.out HZ4.out).mono ?_
    rintro e w5 ⟨rfl, q5, rfl⟩
    go_wp2_with fail
    go_ret
    exact ⟨rfl, bel_tr HB3.out (Nat.le_refl _) (bel_drewQ w3 _)⟩
  have HOK := Lib.hid hok
  have HYN : Hid (ys = needL (getO os) ws hs) := Lib.hid (by rw [HYS.out, if_pos hok])
  clear hok HYS
  go_wp2_with fail
  refine (sameInts_any A2 A3 ys.length c2 c3 ys w3 w1.heap.size w2.heap.size w2.heap.size w3.heap.size (by omega) HY3.out HZ3.out).mono ?_
  rintro e w4 ⟨rfl, q4, hw4⟩
  have hb4 : Below w3.heap.size w3 w4 := by rw [hw4]; exact bel_drewQ w3 q4
  have HB4 := Lib.hid (bel_tr HB3.out (Nat.le_refl _) hb4)
  have HO4 := Lib.hid (HO3.out.below hb4 (by omega))
  have HF4 := Lib.hid (HF3.out.below hb4 (by omega))
  have HG4 := Lib.hid (HG3.out.below hb4 (by omega))
  have HY4 := Lib.hid (HY3.out.below hb4 (by omega))
  have hs4 := hb4.size
  clear hw4 hb4 HO3 HF3 HG3 HY3 HZ3
  go_wp2_with fail
  refine (implFetch_any os ws ws A n c F m d F m d w4 w.heap.size w1.heap.size (by omega) (by omega) (by omega) HO4.out HF4.out.ints HF4.out.ints).mono ?_
  rintro e w5 ⟨v5, hown5, hb5, rfl⟩
  have HB5 := Lib.hid (bel_tr HB4.out (Nat.le_refl _) hb5)
  rw [okF_self HOK.out, if_pos rfl, needL_self] at hown5
  rw [okF_self HOK.out]
  obtain ⟨A5, c5, rfl, -⟩ := Rd.of_own hown5
  clear hown5 hb5
  go_wp2_with fail
  go_ret
  exact ⟨rfl, HB5.out⟩

set_option linter.unusedVariables false
set_option maxRecDepth 100000 in
theorem lifted (os : Os) (started : os.Started) (H : Type) (enc : TypeId × Value → H) :
    ReturnsInHanded {} Try.checked os 4 .any (Rows.fnNeedNoneSpec.pre6 enc Try.prog Try.f4 Rows.fnNeedNoneRow.domain false) (Rows.fnNeedNoneSpec.post enc Try.prog Try.f4 false true false false) := by
  refine returnsInHanded_of_change (C := Try.checked) Try.own started (by kernel_rfl) Try.func4
    (ChangeSpec.witness6 (enc := enc) (C := Try.checked) false ⟨#[], #[.slice none 0 0], []⟩ 8 (by kernel_rfl) (by kernel_rfl) (by kernel_rfl) (by kernel_rfl)) ?_
  intro W base args ds gs before hval0 hW hcnd _
  have hval : ∀ (j : Nat) t v, Try.f4.params[j]? = some t → args[j]? = some v → Value.okWide Try.prog W .any base t v := hval0
  have hW' := hW
  obtain ⟨p, q, hA0, hV, rfl, hfz, hnd⟩ := hW
  have hA : DataW.TrodAll enc Try.prog W 0 (fun _ => true) true Try.f4.params.toList args.toList ds p := hA0
  rw [Try.params4] at hA hval
  obtain ⟨v0, vs0, d0, ds0, p0, q0, hargs, rfl, rfl, h0, r0⟩ := trodAll_cons hA
  obtain ⟨rfl, rfl, rfl⟩ := trodAll_nil r0
  obtain rfl : args = #[v0] := by cases args; simp_all
  obtain ⟨rfl, rfl⟩ := trodVars_none hV
  have k0 := h0
  have lt0 : ∀ x ∈ p0, x.block < W.heap.size := by obtain ⟨m, hm⟩ := k0; exact DataW.trod_lt m _ _ _ hm
  obtain ⟨a0, len0, cap0, rfl⟩ := okWide_slice Try.underlying35 (hval 0 35 v0 rfl rfl)
  obtain ⟨z0, w0⟩ := open_row (k := .u8) Try.underlying35 Try.underlying5 (by kernel_rfl) h0 (fun _ => rfl)
  clear hA0 hval0
  refine (walk a0 len0 cap0 z0 W w0).mono fun e W' ⟨he, bel⟩ => ?_
  subst he
  exact ⟨_, rfl, _, _, _, [], _, [], hW', trodAll_mk1 (shut_bool Try.underlying4 _), (trodAll_cons_mk (Below.trod Try.laidOut (by kernel_rfl) (of_decide_eq_true (by kernel_rfl)) k0 bel lt0) trodAll_mk0), rfl, bel.frame _, fun h => by cases h⟩

theorem proved : Rows.FnNeedNoneSaid :=
  OpenClaim.holds_of_wide 4 Try.f4 rfl rfl rfl rfl rfl rfl rfl ⟨rfl, rfl, rfl, rfl, rfl⟩ rfl rfl rfl rfl rfl (by kernel_rfl) Try.func4 (by kernel_rfl)
    (of_decide_eq_true (by kernel_rfl)) (by unfold Func.isWrapper; first | (rw [if_pos (by decide +kernel)]; kernel_rfl) | (rw [if_neg (by decide +kernel)]; exact ⟨rfl, rfl⟩))
    (fun os started H enc _ => lifted os started H enc)

#print axioms proved

end Go.Proofs.Ytnaeglfochnikaa.fnNeedNone
