/-
  For every code: ShardRecover of a drawn shard answers as the reference, and of a new shard has nothing. No condition.
-/
import Derived.Test.YtgnhanbdfohjaaaDrawRuns
import Derived.Test.YtgnhanbdfohjaaaSameSt
namespace Go.Proofs.Ytgnhanbdfohjaaa.fnRecoverNew
set_option linter.unusedVariables false
set_option linter.unusedSimpArgs false
open Go.ChangeShapes Go.WideShapes Go.ChangeAt Go.RowKit

set_option maxRecDepth 100000 in
set_option maxHeartbeats 800000 in
theorem walk (a0 : Option Addr) (len0 cap0 : Nat) (z0 : List Int) (w : World) (w0 : IsRow .u8 w a0 len0 cap0 z0) :
    Calls Try.prog 4 #[.slice a0 len0 cap0] w fun e w' => e = .returned (.bool true) ∧ Below w.heap.size w w' := by
  have hn := w0.bd
  have HI := Lib.hid w0
  clear w0
  by_cases hbig : 1048576 < len0
  · go_enter Try.func4, Try.ntmps4
    go_wp2
    go_ret
    exact ⟨rfl, Below.refl _ _⟩
  · have hs_len0 : len0 ≤ 1048576 := by omega
    clear hbig
    go_enter Try.func4, Try.ntmps4
    go_wp2_with fail
    refine (drawShardRecover_any _ _ _ z0 _ HI.out).mono ?_
    rintro e w1 ⟨A, n, c, rs, ⟨hd, hrec, hnc, hcm, hn31, hn4, hb1⟩, rfl⟩
    have hb1' : Below w.heap.size w (w1.alloc (.cells #[.slice A n c] 25)) := hb1.alloc hb1.size _
    have HB1 := Lib.hid hb1'
    have HREC1 := Lib.hid (hrec.alloc (.cells #[.slice A n c] 25))
    have HC := Lib.hid (calm_drawn hd)
    have hx := heap_alloc_new w1 (.cells #[.slice A n c] 25)
    have HX := Lib.hid hx
    have hs1 := hb1.size
    have hz1 : (w1.alloc (.cells #[.slice A n c] 25)).heap.size = w1.heap.size + 1 := by simp
    clear hd hrec hn4 hb1 hb1' hx
    go_wp2_with fail
    refine (implRecover_any A n c rs _ w.heap.size hnc hcm HREC1.out HC.out).mono ?_
    rintro e w2 ⟨A1, k1, c1, A2, k2, c2, x1, x2, hF1, hF2, hy, hno, hb2, rfl⟩
    rw [hz1] at hF1 hF2 hb2
    have hb2' : Below (w1.heap.size + 1) (w1.alloc (.cells #[.slice A n c] 25)) w2 := hb2
    have HB2 : Hid (Below w.heap.size w (w2.alloc (.cells #[.slice A1 k1 c1, .slice A2 k2 c2] 30))) := Lib.hid ((HB1.out.trans (hb2'.mono (by omega))).alloc (by have := hb2'.size; simp at this; omega) _)
    have hx2 : w2.heap[w1.heap.size]? = some (.cells #[.slice A n c] 25 (0, 0)) := (hb2'.block _ (by omega)).trans HX.out
    have k2x : w2.cell? ⟨w1.heap.size, 0, none⟩ = some (.slice A n c) := cell_zero hx2
    have hl2 : w1.heap.size < w2.heap.size := heap_lt hx2
    have HREC2 : Hid (Recs (w2.alloc (.cells #[.slice A1 k1 c1, .slice A2 k2 c2] 30)) w.heap.size A n rs) := Lib.hid ((HREC1.out.bel (by rw [hz1]; exact hb2')).alloc _)
    have HF1 := Lib.hid (hF1.alloc (.cells #[.slice A1 k1 c1, .slice A2 k2 c2] 30))
    have HF2 := Lib.hid (hF2.alloc (.cells #[.slice A1 k1 c1, .slice A2 k2 c2] 30))
    have HY := Lib.hid hy
    have HNO := Lib.hid hno
    have hx4 := heap_alloc_new w2 (.cells #[.slice A1 k1 c1, .slice A2 k2 c2] 30)
    have HX4 := Lib.hid hx4
    have hz2 : (w2.alloc (.cells #[.slice A1 k1 c1, .slice A2 k2 c2] 30)).heap.size = w2.heap.size + 1 := by simp
    clear hx2 hF1 hF2 hy hno hb2 hb2' hx4
    go_wp2_with fail
    refine (specRecover_any A n c rs _ w.heap.size hnc hcm (by simp; omega) HREC2.out).mono ?_
    rintro e w3 ⟨B1, j1, d1, B2, j2, d2, y1, y2, hG1, hG2, hy', hno', hb3, rfl⟩
    rw [hz2] at hG1 hG2 hb3
    have hb3' : Below (w2.heap.size + 1) (w2.alloc (.cells #[.slice A1 k1 c1, .slice A2 k2 c2] 30)) w3 := hb3
    have hx3 : w3.heap[w2.heap.size]? = some (.cells #[.slice A1 k1 c1, .slice A2 k2 c2] 30 (0, 0)) := (hb3'.block _ (by omega)).trans HX4.out
    obtain ⟨p0, p1, pf0, pf1⟩ := ret_agg hx3
    have HX3 := Lib.hid hx3
    have hl3 : w2.heap.size < w3.heap.size := heap_lt hx3
    have hs3 : w2.heap.size + 1 ≤ w3.heap.size := by omega
    have HB3 : Hid (Below w.heap.size w (w3.alloc (.cells #[.slice B1 j1 d1, .slice B2 j2 d2] 30))) := Lib.hid ((HB2.out.trans (hb3'.mono (by omega))).alloc (by omega) _)
    have heq : y1 = x1 ∧ y2 = x2 ∧ j1 = k1 ∧ j2 = k2 ∧ k1 ≤ 4 ∧ k2 ≤ 4 := by
      rcases hv : shardB (abs rs) with _ | _
      · obtain ⟨rfl, rfl, rfl, rfl⟩ := HNO.out hv
        obtain ⟨rfl, rfl, rfl, rfl⟩ := hno' hv
        exact ⟨rfl, rfl, rfl, rfl, by omega, by omega⟩
      · obtain ⟨rfl, rfl, rfl, rfl⟩ := HY.out hv
        obtain ⟨rfl, rfl, rfl, rfl⟩ := hy' hv
        exact ⟨rfl, rfl, rfl, rfl, by omega, by omega⟩
    obtain ⟨rfl, rfl, rfl, rfl, hk1, hk2⟩ := heq
    have HF13 := Lib.hid ((HF1.out.bel (by rw [hz2]; exact hb3')).alloc (.cells #[.slice B1 j1 d1, .slice B2 j2 d2] 30))
    have HF23 := Lib.hid ((HF2.out.bel (by rw [hz2]; exact hb3')).alloc (.cells #[.slice B1 j1 d1, .slice B2 j2 d2] 30))
    have HG1 := Lib.hid (hG1.alloc (.cells #[.slice B1 j1 d1, .slice B2 j2 d2] 30))
    have HG2 := Lib.hid (hG2.alloc (.cells #[.slice B1 j1 d1, .slice B2 j2 d2] 30))
    have hq : (!(shardB (abs rs) == shardB (abs rs))) = false := by simp
    have hq2 : (shardB (abs rs) == shardB (abs rs)) = true := by simp
    clear hG1 hG2 hb3 hb3' hx3 hy' hno'
    go_wp2_with fail
    refine (sameState_any A1 B1 A2 B2 _ _ _ _ _ _ _ _ _ _ _ _ _ (by omega) (by omega) HF13.out HG1.out HF23.out HG2.out).mono ?_
    rintro e w4 ⟨rfl, hb4⟩
    have hz3 : (w3.alloc (.cells #[.slice B1 j1 d1, .slice B2 j2 d2] 30)).heap.size = w3.heap.size + 1 := by simp
    rw [hz3] at hb4
    have hb4' : Below (w3.heap.size + 1) (w3.alloc (.cells #[.slice B1 j1 d1, .slice B2 j2 d2] 30)) w4 := hb4
    have HB4 : Hid (Below w.heap.size w w4) := Lib.hid (HB3.out.trans (hb4'.mono (by omega)))
    have h44 := (hb4'.block w2.heap.size (by omega)).trans ((Below.heap_alloc _ _ _ hl3).trans HX3.out)
    have h46 := (hb4'.block w3.heap.size (by omega)).trans (heap_alloc_new w3 (.cells #[.slice B1 j1 d1, .slice B2 j2 d2] 30))
    obtain ⟨q0, q1, -, -⟩ := ret_agg h44
    obtain ⟨u0, u1, -, -⟩ := ret_agg h46
    have H44 := Lib.hid h44
    have hl4 : w3.heap.size < w4.heap.size := heap_lt h46
    have hl42 : w2.heap.size < w4.heap.size := heap_lt h44
    have HF14 := Lib.hid (HF13.out.bel (by rw [hz3]; exact hb4'))
    have HF24 := Lib.hid (HF23.out.bel (by rw [hz3]; exact hb4'))
    have HG14 := Lib.hid (HG1.out.bel (by rw [hz3]; exact hb4'))
    have HG24 := Lib.hid (HG2.out.bel (by rw [hz3]; exact hb4'))
    clear hb4 hb4' h44 h46
    rcases hv : shardB (abs rs) with _ | _
    · simp only [hv] at hq hq2
      go_wp2_with fail
      refine (sameState_any A1 B1 A2 B2 _ _ _ _ _ _ _ _ _ _ _ _ _ (by omega) (by omega) HF14.out HG14.out HF24.out HG24.out).mono ?_
      rintro e w5 ⟨rfl, hb5⟩
      have HB5 := Lib.hid (HB4.out.trans (hb5.mono HB4.out.size))
      go_wp2_with fail
      go_ret
      exact ⟨rfl, HB5.out⟩
    · simp only [hv] at hq hq2
      have hk4 : j1 = 4 := (HY.out hv).2.2.1
      go_wp2_with fail
      refine (implRecover_any none 0 0 [] _ w.heap.size (Nat.le_refl _) (by omega) (Recs.nil _ _ _) (calm_valid rfl)).mono ?_
      rintro e w5 ⟨D1, m1, e1, D2, m2, e2, v1, v2, hE1, hE2, hyy, -, hb5, rfl⟩
      obtain ⟨rfl, rfl, rfl, rfl⟩ := hyy rfl
      have h54 := (hb5.block w2.heap.size hl42).trans H44.out
      obtain ⟨g0, g1, -, -⟩ := ret_agg h54
      have hl54 : w2.heap.size < w5.heap.size := heap_lt h54
      have HB5 : Hid (Below w.heap.size w ((w5.alloc (.cells #[.slice D1 4 e1, .slice D2 4 e2] 30)).alloc (.cells #[.int .i64 (-1), .int .i64 (-1), .int .i64 (-1), .int .i64 (-1)] 3))) :=
        Lib.hid (((HB4.out.trans (hb5.mono HB4.out.size)).alloc (Nat.le_trans HB4.out.size hb5.size) _).alloc (by have := HB4.out.size; have := hb5.size; simp; omega) _)
      have hE1' : FlH ci w5 w4.heap.size D1 4 [-1, -1, -1, -1] := hE1
      have hE2' : FlH ci w5 w4.heap.size D2 4 [-1, -1, -1, -1] := hE2
      have HE1 := Lib.hid ((hE1'.alloc (.cells #[.slice D1 4 e1, .slice D2 4 e2] 30)).alloc (.cells #[.int .i64 (-1), .int .i64 (-1), .int .i64 (-1), .int .i64 (-1)] 3))
      have HE2 := Lib.hid ((hE2'.alloc (.cells #[.slice D1 4 e1, .slice D2 4 e2] 30)).alloc (.cells #[.int .i64 (-1), .int .i64 (-1), .int .i64 (-1), .int .i64 (-1)] 3))
      have hlit : TabX ((w5.alloc (.cells #[.slice D1 4 e1, .slice D2 4 e2] 30)).alloc (.cells #[.int .i64 (-1), .int .i64 (-1), .int .i64 (-1), .int .i64 (-1)] 3)) (w5.heap.size + 1) 3 [-1, -1, -1, -1] [] := by
        have := heap_alloc_new (w5.alloc (.cells #[.slice D1 4 e1, .slice D2 4 e2] 30)) (.cells #[.int .i64 (-1), .int .i64 (-1), .int .i64 (-1), .int .i64 (-1)] 3)
        simpa [TabX] using this
      have HLIT := Lib.hid (hlit.fl (base := 0) (Nat.zero_le _))
      subst hk4
      clear hE1 hE2 hE1' hE2' hlit h54 hb5 hyy
      go_wp2_with fail
      refine (sameInts_any _ _ _ _ _ [-1, -1, -1, -1] _ _ _ _ _ (by omega) HE1.out HLIT.out).mono ?_
      rintro e w6 ⟨rfl, m6, rfl⟩
      go_wp2_with fail
      refine (sameInts_any _ _ _ _ _ [-1, -1, -1, -1] _ _ _ _ _ (by omega) (HE2.out.drewN m6) (HE1.out.drewN m6)).mono ?_
      rintro e w7 ⟨rfl, m7, rfl⟩
      go_wp2_with fail
      go_ret
      exact ⟨rfl, ⟨HB5.out.os, HB5.out.tape, HB5.out.output, HB5.out.size, HB5.out.block⟩⟩

set_option linter.unusedVariables false
set_option maxRecDepth 100000 in
theorem lifted (os : Os) (started : os.Started) (H : Type) (enc : TypeId × Value → H) :
    ReturnsInHanded {} Try.checked os 4 .any (Rows.fnRecoverNewSpec.pre6 enc Try.prog Try.f4 Rows.fnRecoverNewRow.domain false) (Rows.fnRecoverNewSpec.post enc Try.prog Try.f4 false true false false) := by
  refine returnsInHanded_of_change (C := Try.checked) Try.own started (by kernel_rfl) Try.func4
    (ChangeSpec.witness6 (enc := enc) (C := Try.checked) false ⟨#[], #[.slice none 0 0], []⟩ 8 (by kernel_rfl) (by kernel_rfl) (by kernel_rfl) (by kernel_rfl)) ?_
  intro W base args ds gs before hval0 hW hcnd _
  have hval : ∀ (j : Nat) t v, Try.f4.params[j]? = some t → args[j]? = some v → Value.okWide Try.prog W .any base t v := hval0
  have hW' := hW
  obtain ⟨p, q, hA0, hV, rfl, hfz, hnd⟩ := hW
  have hA : DataW.TrodAll enc Try.prog W 0 (fun _ => true) true Try.f4.params.toList args.toList ds p := hA0
  rw [Try.params4] at hA hval
  obtain ⟨v0, vs0, d0, ds0, p0, q0, hargs, rfl, rfl, h0, r0⟩ := trodAll_cons hA
  obtain ⟨rfl, rfl, rfl⟩ := trodAll_nil r0
  obtain rfl : args = #[v0] := by cases args; simp_all
  obtain ⟨rfl, rfl⟩ := trodVars_none hV
  have k0 := h0
  have lt0 : ∀ x ∈ p0, x.block < W.heap.size := by obtain ⟨m, hm⟩ := k0; exact DataW.trod_lt m _ _ _ hm
  obtain ⟨a0, len0, cap0, rfl⟩ := okWide_slice Try.underlying22 (hval 0 22 v0 rfl rfl)
  obtain ⟨z0, w0⟩ := open_row (k := .u8) Try.underlying22 Try.underlying5 (by kernel_rfl) h0 (fun _ => rfl)
  clear hA0 hval0
  refine (walk a0 len0 cap0 z0 W w0).mono fun e W' ⟨he, bel⟩ => ?_
  subst he
  exact ⟨_, rfl, _, _, _, [], _, [], hW', trodAll_mk1 (shut_bool Try.underlying4 _), (trodAll_cons_mk (Below.trod Try.laidOut (by kernel_rfl) (of_decide_eq_true (by kernel_rfl)) k0 bel lt0) trodAll_mk0), rfl, bel.frame _, fun h => by cases h⟩

theorem proved : Rows.FnRecoverNewSaid :=
  OpenClaim.holds_of_wide 4 Try.f4 rfl rfl rfl rfl rfl rfl rfl ⟨rfl, rfl, rfl, rfl, rfl⟩ rfl rfl rfl rfl rfl (by kernel_rfl) Try.func4 (by kernel_rfl)
    (of_decide_eq_true (by kernel_rfl)) (by unfold Func.isWrapper; first | (rw [if_pos (by decide +kernel)]; kernel_rfl) | (rw [if_neg (by decide +kernel)]; exact ⟨rfl, rfl⟩))
    (fun os started H enc _ => lifted os started H enc)

#print axioms proved
end Go.Proofs.Ytgnhanbdfohjaaa.fnRecoverNew
