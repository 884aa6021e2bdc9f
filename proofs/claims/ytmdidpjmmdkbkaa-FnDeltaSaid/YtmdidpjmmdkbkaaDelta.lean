/-
  For every code: the operations that are made for a drawn text are those of the reference, and they make the text. No condition.
-/
import Derived.Test.YtmdidpjmmdkbkaaMakeI
import Derived.Test.YtmdidpjmmdkbkaaMakeS
import Derived.Test.YtmdidpjmmdkbkaaDrawMake
import Derived.HandedShaped
namespace Go.Proofs.Ytmdidpjmmdkbkaa.fnDelta
set_option linter.unusedVariables false
set_option linter.unusedSimpArgs false
open Go.ChangeShapes Go.WideShapes Go.ChangeAt Go.RowKit

set_option maxHeartbeats 1600000 in
set_option maxRecDepth 100000 in
theorem walk (a0 : Option Addr) (len0 cap0 : Nat) (z0 : List Int) (w : World) (w0 : IsRow .u8 w a0 len0 cap0 z0) (m : Int) (hm : w.cell? ⟨0, 0, none⟩ = some (.int .i64 m)) :
    Calls Try.prog 3 #[.slice a0 len0 cap0] w fun e w' => e = .returned (.bool true) ∧ Below w.heap.size w w' := by
  have hn := w0.bd
  have HI := Lib.hid w0
  have HM := Lib.hid hm
  have hw0 : 0 < w.heap.size := World.block_lt_of_cell? w _ hm
  clear w0 hm
  by_cases hbig : 1048576 < len0
  · go_enter Try.func3, Try.ntmps3
    go_wp2
    go_ret
    exact ⟨rfl, Below.refl _ _⟩
  · have hs_len0 : len0 ≤ 1048576 := by omega
    clear hbig
    go_enter Try.func3, Try.ntmps3
    go_wp2_with fail
    refine (drawMake_any _ _ _ z0 _ HI.out).mono ?_
    rintro e w1 ⟨s, t, hs, ht, hb1, rfl⟩
    have HB1 := Lib.hid hb1
    have hm1 : Hid (w1.cell? ⟨0, 0, none⟩ = some (.int .i64 m)) := Lib.hid ((hb1.cell (p := ⟨0, 0, none⟩) hw0).trans HM.out)
    have hsz1 := hb1.size
    have hs1 : s.size ≤ 9223372036854775807 := by omega
    have ht1 : t.size ≤ 9223372036854775807 := by omega
    clear hb1
    have hlen := make_len (b := s) (t := t)
    obtain ⟨xs, hxs⟩ : ∃ xs, xs = makeB s t := ⟨_, rfl⟩
    rw [← hxs] at hlen
    have HXS := Lib.hid hxs
    clear hxs
    go_wp2_with fail
    refine (implMake_any s t m _ hs1 ht1 (by omega) hm1.out).mono ?_
    rintro e w2 ⟨v2, hown2, hb2, rfl⟩
    rw [← HXS.out] at hown2
    obtain ⟨A2, c2, rfl, hc2, hcm2, hr2⟩ := Rd.of_own hown2
    have HI2 : Hid (Fl co w2 w1.heap.size w2.heap.size A2 xs.length xs) := ⟨rfl, hr2⟩
    have HB2 : Hid (Below w.heap.size w w2) := HB1.out.trans (hb2.mono hsz1)
    have hsz2 := hb2.size
    clear hown2 hr2 hb2
    go_wp2_with fail
    refine (specMake_any s t _ hs1 ht1).mono ?_
    rintro e w3 ⟨v3, hown3, hb3, rfl⟩
    rw [← HXS.out] at hown3
    obtain ⟨A3, c3, rfl, hc3, hcm3, hr3⟩ := Rd.of_own hown3
    have HI3 : Hid (Fl co w3 w2.heap.size w3.heap.size A3 xs.length xs) := ⟨rfl, hr3⟩
    have HI23 : Hid (Fl co w3 w1.heap.size w2.heap.size A2 xs.length xs) := HI2.out.below hb3 (Nat.le_refl _)
    have HB3 : Hid (Below w.heap.size w w3) := HB2.out.trans (hb3.mono (Nat.le_trans hsz1 hsz2))
    have hsz3 := hb3.size
    clear hown3 hr3 hb3 HI2
    go_wp2_with fail
    refine (sameOps_any A2 A3 xs.length c2 c3 xs _ _ _ _ _ (by omega) HI23.out HI3.out).mono ?_
    rintro e w4 ⟨rfl, q4, rfl⟩
    by_cases hb8 : 8 < s.size
    · go_wp2_with fail
      refine (sameOps_any A2 A3 xs.length c2 c3 xs _ _ _ _ _ (by omega) (HI23.out.drewN q4) (HI3.out.drewN q4)).mono ?_
      rintro e w5 ⟨rfl, q5, rfl⟩
      go_wp2_with fail
      go_ret
      exact ⟨rfl, below_drewN HB3.out (q4 + q5)⟩
    by_cases ht8 : 8 < t.size
    · go_wp2_with fail
      refine (sameOps_any A2 A3 xs.length c2 c3 xs _ _ _ _ _ (by omega) (HI23.out.drewN q4) (HI3.out.drewN q4)).mono ?_
      rintro e w5 ⟨rfl, q5, rfl⟩
      go_wp2_with fail
      go_ret
      exact ⟨rfl, below_drewN HB3.out (q4 + q5)⟩
    have hok := make_ok (b := s) (t := t) (by omega) (by omega)
    rw [← HXS.out] at hok
    have HOK1 := Lib.hid hok.1
    have HOK2 := Lib.hid hok.2
    clear hok
    have heq : (t.toList == t.toList) = true := by simp
    go_wp2_with fail
    refine (implDelta_any s A2 xs.length c2 xs _ _ _ (by exact hsz3) hs1 (by omega) (HI23.out.drewN q4)).mono ?_
    rintro e w5 ⟨rfl, hb5⟩
    have HB5 : Hid (Below w.heap.size w w5) := (below_drewN HB3.out q4).trans (hb5.mono (by exact Nat.le_trans hsz1 (Nat.le_trans hsz2 hsz3)))
    clear hb5
    unfold DRes
    rw [HOK1.out, HOK2.out]
    go_wp2_with fail
    go_ret
    exact ⟨rfl, HB5.out⟩

theorem Try.maxlen (W : World) (h : W.ShapedOpen Try.prog) : ∃ m, W.cell? ⟨0, 0, none⟩ = some (.int .i64 m) :=
  cell_of_shapedOpen_int h (of_decide_eq_true (by kernel_rfl)) (zero := #[.int .i64 0]) (t := 3) (by kernel_rfl) rfl (by kernel_rfl) (by kernel_rfl) Try.underlying3

set_option linter.unusedVariables false
set_option maxRecDepth 100000 in
theorem lifted (os : Os) (started : os.Started) (H : Type) (enc : TypeId × Value → H) :
    ReturnsInHanded {} Try.checked os 3 .any (Rows.fnDeltaSpec.pre6 enc Try.prog Try.f3 Rows.fnDeltaRow.domain false) (Rows.fnDeltaSpec.post enc Try.prog Try.f3 false true false false) := by
  refine returnsInHanded_of_change_shaped (C := Try.checked) Try.own started (by kernel_rfl) Try.func3
    (ChangeSpec.witness6 (enc := enc) (C := Try.checked) false ⟨#[], #[.slice none 0 0], []⟩ 8 (by kernel_rfl) (by kernel_rfl) (by kernel_rfl) (by kernel_rfl)) ?_
  intro W base args ds gs before hval0 hW hcnd _ hsh _
  obtain ⟨mx, hmx⟩ := Try.maxlen W hsh
  have hval : ∀ (j : Nat) t v, Try.f3.params[j]? = some t → args[j]? = some v → Value.okWide Try.prog W .any base t v := hval0
  have hW' := hW
  obtain ⟨p, q, hA0, hV, rfl, hfz, hnd⟩ := hW
  have hA : DataW.TrodAll enc Try.prog W 0 (fun _ => true) true Try.f3.params.toList args.toList ds p := hA0
  rw [Try.params3] at hA hval
  obtain ⟨v0, vs0, d0, ds0, p0, q0, hargs, rfl, rfl, h0, r0⟩ := trodAll_cons hA
  obtain ⟨rfl, rfl, rfl⟩ := trodAll_nil r0
  obtain rfl : args = #[v0] := by cases args; simp_all
  obtain ⟨rfl, rfl⟩ := trodVars_none hV
  have k0 := h0
  have lt0 : ∀ x ∈ p0, x.block < W.heap.size := by obtain ⟨m, hm⟩ := k0; exact DataW.trod_lt m _ _ _ hm
  obtain ⟨a0, len0, cap0, rfl⟩ := okWide_slice Try.underlying22 (hval 0 22 v0 rfl rfl)
  obtain ⟨z0, w0⟩ := open_row (k := .u8) Try.underlying22 Try.underlying5 (by kernel_rfl) h0 (fun _ => rfl)
  clear hA0 hval0
  refine (walk a0 len0 cap0 z0 W w0 mx hmx).mono fun e W' ⟨he, bel⟩ => ?_
  subst he
  exact ⟨_, rfl, _, _, _, [], _, [], hW', trodAll_mk1 (shut_bool Try.underlying4 _), (trodAll_cons_mk (Below.trod Try.laidOut (by kernel_rfl) (of_decide_eq_true (by kernel_rfl)) k0 bel lt0) trodAll_mk0), rfl, bel.frame _, fun h => by cases h⟩

theorem proved : Rows.FnDeltaSaid :=
  OpenClaim.holds_of_wide 3 Try.f3 rfl rfl rfl rfl rfl rfl rfl ⟨rfl, rfl, rfl, rfl, rfl⟩ rfl rfl rfl rfl rfl (by kernel_rfl) Try.func3 (by kernel_rfl)
    (of_decide_eq_true (by kernel_rfl)) (by unfold Func.isWrapper; first | (rw [if_pos (by decide +kernel)]; kernel_rfl) | (rw [if_neg (by decide +kernel)]; exact ⟨rfl, rfl⟩))
    (fun os started H enc _ => lifted os started H enc)

#print axioms proved
end Go.Proofs.Ytmdidpjmmdkbkaa.fnDelta
