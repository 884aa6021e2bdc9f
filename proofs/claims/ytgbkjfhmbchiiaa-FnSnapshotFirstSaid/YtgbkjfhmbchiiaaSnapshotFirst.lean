/-
  For every code: SnapshotFirst of a drawn coordinator answers as the reference; a committed transaction has its snapshot. No condition.
-/
import Derived.Test.YtgbkjfhmbchiiaaM13
import Derived.Test.YtgbkjfhmbchiiaaHasI
namespace Go.Proofs.Ytgbkjfhmbchiiaa.fnSnapshotFirst
set_option linter.unusedVariables false
set_option linter.unusedSimpArgs false
open Go.ChangeShapes Go.WideShapes Go.ChangeAt Go.RowKit

theorem wf_small {n : Nat} {ts : List TxnD} {os : List Int} (h : DrB n ts os) : ∀ t ∈ ts, ∀ v ∈ t.votes, (Lit.int .i64 v).wf = true := fun t ht v hv => by
  have h1 := h.2.2 t ht v hv
  have h2 : v = -2 ∨ v = -1 ∨ v = 0 ∨ v = 1 := by omega
  rcases h2 with rfl | rfl | rfl | rfl <;> decide
theorem idx_get {x : Int} {xs : List Int} {k : Nat} (h : idxI x xs = k) : ∃ hk : k < xs.length, xs[k] = x := by
  unfold idxI at h
  by_cases hm : x ∈ xs
  · rw [if_pos hm] at h
    have hk : xs.idxOf x = k := by omega
    subst hk
    exact ⟨List.idxOf_lt_length_iff.2 hm, List.getElem_idxOf _⟩
  · rw [if_neg hm] at h; omega

set_option maxRecDepth 100000 in
set_option maxHeartbeats 1600000 in
theorem walk (a0 : Option Addr) (len0 cap0 : Nat) (z0 : List Int) (w : World) (w0 : IsRow .u8 w a0 len0 cap0 z0) :
    Calls Try.prog 3 #[.slice a0 len0 cap0] w fun e w' => e = .returned (.bool true) ∧ Below w.heap.size w w' := by
  have hn := w0.bd
  have HI := Lib.hid w0
  clear w0
  by_cases hbig : 1048576 < len0
  · go_enter Try.func3, Try.ntmps3
    go_wp2
    go_ret
    exact ⟨rfl, Below.refl _ _⟩
  · have hs_len0 : len0 ≤ 1048576 := by omega
    clear hbig
    go_enter Try.func3, Try.ntmps3
    go_wp2_with fail
    refine (drawFirst_any _ _ _ z0 _ HI.out).mono ?_
    rintro e w1 ⟨A0, c0, A1, c1, ts, os, r, hco, hdb, hb1, rfl⟩
    have HWF := Lib.hid (wf_small hdb)
    have ht12 : ts.length ≤ 1048576 := by have := hdb.1; omega
    have ho13 : os.length ≤ 1048576 := by have := hdb.2.1; omega
    obtain ⟨y, hy⟩ : ∃ y, y = w1.heap.size := ⟨_, rfl⟩
    obtain ⟨w2, hw2⟩ : ∃ w2, w2 = w1.alloc (.cells #[.slice A0 ts.length c0, .slice A1 os.length c1] 26) := ⟨_, rfl⟩
    have hb2 : Below w1.heap.size w1 w2 := by rw [hw2]; exact (Below.refl _ _).alloc (Nat.le_refl _) _
    have HB2 := Lib.hid (bel_tr hb1 (Nat.le_refl _) hb2)
    have HCO2 := Lib.hid (hco.fresh hb2)
    have HY2 : Hid (w2.heap[y]? = some (.cells #[.slice A0 ts.length c0, .slice A1 os.length c1] 26 (0, 0))) := by rw [hw2, hy]; exact Lib.hid (heap_alloc_new w1 _)
    clear hco hdb hb1
    go_upto_region 4 with (fail)
    rw [← hw2, ← hy]
    clear hw2 hy hb2
    have y0 : w2.cell? ⟨y, 0, none⟩ = some (.slice A0 ts.length c0) := cell_of_row _ _ _ _ _ _ HY2.out
    have y1 : w2.cell? ⟨y, 1, none⟩ = some (.slice A1 os.length c1) := cell_of_row _ _ _ _ _ _ HY2.out
    have hyl : y < w2.heap.size := hlt_of HY2.out
    go_wp2_with fail
    refine (implFirst_any ts os r A0 _ c0 A1 _ c1 w2 _ w2.heap.size (Nat.le_refl _) HCO2.out.rd.1 HCO2.out.rd.2 ht12 ho13 HWF.out).mono ?_
    rintro e w3 ⟨rfl, hb3⟩
    have HB3 := Lib.hid (bel_tr HB2.out (Nat.le_refl _) hb3)
    have HCO3 := Lib.hid (HCO2.out.fresh hb3)
    have HY3 := Lib.hid ((hb3.block _ hyl).trans HY2.out)
    have y30 : w3.cell? ⟨y, 0, none⟩ = some (.slice A0 ts.length c0) := cell_of_row _ _ _ _ _ _ HY3.out
    have y31 : w3.cell? ⟨y, 1, none⟩ = some (.slice A1 os.length c1) := cell_of_row _ _ _ _ _ _ HY3.out
    have hyl3 : y < w3.heap.size := hlt_of HY3.out
    clear hb3 y0 y1
    go_wp2_with fail
    refine (specFirst_any ts os r A0 _ c0 A1 _ c1 w3 _ w3.heap.size (Nat.le_refl _) HCO3.out.rd.1 HCO3.out.rd.2 ho13).mono ?_
    rintro e w4 ⟨rfl, hb4⟩
    have HB4 := Lib.hid (bel_tr HB3.out (Nat.le_refl _) hb4)
    have HCO4 := Lib.hid (HCO3.out.fresh hb4)
    have HY4 := Lib.hid ((hb4.block _ hyl3).trans HY3.out)
    have y40 : w4.cell? ⟨y, 0, none⟩ = some (.slice A0 ts.length c0) := cell_of_row _ _ _ _ _ _ HY4.out
    have y41 : w4.cell? ⟨y, 1, none⟩ = some (.slice A1 os.length c1) := cell_of_row _ _ _ _ _ _ HY4.out
    have hyl4 : y < w4.heap.size := hlt_of HY4.out
    clear hb4 y30 y31
    obtain ⟨x, hx⟩ : ∃ x, firstL ⟨ts, os⟩ r = x := ⟨_, rfl⟩
    have HX := Lib.hid hx
    rw [hx]
    have hxx : (x != x) = false := by simp
    have hxe : (x == x) = true := by simp
    clear hx
    go_wp2_with fail
    refine (specCoord_any ts os A0 _ c0 A1 _ c1 w4 _ w4.heap.size (Nat.le_refl _) HCO4.out.rd.1 HCO4.out.rd.2).mono ?_
    rintro e w5 ⟨rfl, hb5⟩
    have HB5 := Lib.hid (bel_tr HB4.out (Nat.le_refl _) hb5)
    have HCO5 := Lib.hid (HCO4.out.fresh hb5)
    have HY5 := Lib.hid ((hb5.block _ hyl4).trans HY4.out)
    have y50 : w5.cell? ⟨y, 0, none⟩ = some (.slice A0 ts.length c0) := cell_of_row _ _ _ _ _ _ HY5.out
    have y51 : w5.cell? ⟨y, 1, none⟩ = some (.slice A1 os.length c1) := cell_of_row _ _ _ _ _ _ HY5.out
    have hyl5 : y < w5.heap.size := hlt_of HY5.out
    clear hb5 y40 y41
    rcases hv : coordB ⟨ts, os⟩ with _ | _
    · clear hv
      go_wp2_with fail
      go_ret
      exact ⟨rfl, HB5.out⟩
    · have HV := Lib.hid hv
      clear hv
      by_cases hneg : idxI r os < 0
      · have hx1 : x = -1 := by rw [← HX.out]; exact firstL_none hneg
        subst hx1
        have hh : hasB r os = false := by have := idxI_ge r os; rw [← this]; simp; omega
        have HH := Lib.hid hh
        clear hneg hh hxx hxe
        go_wp2_with fail
        refine (hasInt_any A1 _ c1 os r w5 _ w5.heap.size (by omega) HCO5.out.rd.2.ints).mono ?_
        rintro e w' ⟨rfl, rfl⟩
        rw [HH.out]
        go_wp2_with fail
        go_ret
        exact ⟨rfl, HB5.out⟩
      · obtain ⟨k, hk⟩ : ∃ k : Nat, idxI r os = k := ⟨(idxI r os).toNat, by omega⟩
        obtain ⟨hkl, hke⟩ := idx_get hk
        have hx1 : x = (k : Int) + 1 := by rw [← HX.out, firstL_at HV.out (by dsimp only; omega), hk]
        subst hx1
        obtain ⟨b7, o7, hl7, rfl, _, hb7, hc7⟩ := HCO5.out.rd.2.ints.int hkl
        rw [hke] at hc7
        have hb7l : b7 < w5.heap.size := World.block_lt_of_cell? _ _ hc7
        have hn1 : ((k : Int) + 1 == -1) = false := by simp; omega
        have hg1 : (1 : Int) ≤ (k : Int) + 1 := by omega
        have hg2 : (k : Int) + 1 ≤ (os.length : Int) := by omega
        clear hneg hk hke
        go_wp2_with fail
        go_ret
        exact ⟨rfl, HB5.out⟩

set_option linter.unusedVariables false
set_option maxRecDepth 100000 in
theorem lifted (os : Os) (started : os.Started) (H : Type) (enc : TypeId × Value → H) :
    ReturnsInHanded {} Try.checked os 3 .any (Rows.fnSnapshotFirstSpec.pre6 enc Try.prog Try.f3 Rows.fnSnapshotFirstRow.domain false) (Rows.fnSnapshotFirstSpec.post enc Try.prog Try.f3 false true false false) := by
  refine returnsInHanded_of_change (C := Try.checked) Try.own started (by kernel_rfl) Try.func3
    (ChangeSpec.witness6 (enc := enc) (C := Try.checked) false ⟨#[], #[.slice none 0 0], []⟩ 8 (by kernel_rfl) (by kernel_rfl) (by kernel_rfl) (by kernel_rfl)) ?_
  intro W base args ds gs before hval0 hW hcnd _
  have hval : ∀ (j : Nat) t v, Try.f3.params[j]? = some t → args[j]? = some v → Value.okWide Try.prog W .any base t v := hval0
  have hW' := hW
  obtain ⟨p, q, hA0, hV, rfl, hfz, hnd⟩ := hW
  have hA : DataW.TrodAll enc Try.prog W 0 (fun _ => true) true Try.f3.params.toList args.toList ds p := hA0
  rw [Try.params3] at hA hval
  obtain ⟨v0, vs0, d0, ds0, p0, q0, hargs, rfl, rfl, h0, r0⟩ := trodAll_cons hA
  obtain ⟨rfl, rfl, rfl⟩ := trodAll_nil r0
  obtain rfl : args = #[v0] := by cases args; simp_all
  obtain ⟨rfl, rfl⟩ := trodVars_none hV
  have k0 := h0
  have lt0 : ∀ x ∈ p0, x.block < W.heap.size := by obtain ⟨m, hm⟩ := k0; exact DataW.trod_lt m _ _ _ hm
  obtain ⟨a0, len0, cap0, rfl⟩ := okWide_slice Try.underlying22 (hval 0 22 v0 rfl rfl)
  obtain ⟨z0, w0⟩ := open_row (k := .u8) Try.underlying22 Try.underlying5 (by kernel_rfl) h0 (fun _ => rfl)
  clear hA0 hval0
  refine (walk a0 len0 cap0 z0 W w0).mono fun e W' ⟨he, bel⟩ => ?_
  subst he
  exact ⟨_, rfl, _, _, _, [], _, [], hW', trodAll_mk1 (shut_bool Try.underlying4 _), (trodAll_cons_mk (Below.trod Try.laidOut (by kernel_rfl) (of_decide_eq_true (by kernel_rfl)) k0 bel lt0) trodAll_mk0), rfl, bel.frame _, fun h => by cases h⟩

theorem proved : Rows.FnSnapshotFirstSaid :=
  OpenClaim.holds_of_wide 3 Try.f3 rfl rfl rfl rfl rfl rfl rfl ⟨rfl, rfl, rfl, rfl, rfl⟩ rfl rfl rfl rfl rfl (by kernel_rfl) Try.func3 (by kernel_rfl)
    (of_decide_eq_true (by kernel_rfl)) (by unfold Func.isWrapper; first | (rw [if_pos (by decide +kernel)]; kernel_rfl) | (rw [if_neg (by decide +kernel)]; exact ⟨rfl, rfl⟩))
    (fun os started H enc _ => lifted os started H enc)

#print axioms proved
end Go.Proofs.Ytgbkjfhmbchiiaa.fnSnapshotFirst
