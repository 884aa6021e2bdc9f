/-
  For every code: ShardRecover of a drawn shard answers as the reference, and just the prepared transactions have locks. No condition.
-/
import Derived.Test.YtgnhanbdfohjaaaLawS
namespace Go.Proofs.Ytgnhanbdfohjaaa.fnLocksPrepared
set_option linter.unusedVariables false
set_option linter.unusedSimpArgs false
open Go.ChangeShapes Go.WideShapes Go.ChangeAt Go.RowKit

theorem ret_of {xs ys us vs : List Int} {B : Bool} {k1 k2 j1 j2 : Nat} {r l : List Int} (hy : B = true → xs = r ∧ ys = l ∧ k1 = 4 ∧ k2 = 4) (hno : B = false → xs = [] ∧ ys = [] ∧ k1 = 0 ∧ k2 = 0)
    (hy' : B = true → us = r ∧ vs = l ∧ j1 = 4 ∧ j2 = 4) (hno' : B = false → us = [] ∧ vs = [] ∧ j1 = 0 ∧ j2 = 0) : us = xs ∧ vs = ys ∧ j1 = k1 ∧ j2 = k2 ∧ k1 ≤ 4 ∧ k2 ≤ 4 := by
  rcases B with _ | _
  · obtain ⟨rfl, rfl, rfl, rfl⟩ := hno rfl
    obtain ⟨rfl, rfl, rfl, rfl⟩ := hno' rfl
    exact ⟨rfl, rfl, rfl, rfl, by omega, by omega⟩
  · obtain ⟨rfl, rfl, rfl, rfl⟩ := hy rfl
    obtain ⟨rfl, rfl, rfl, rfl⟩ := hy' rfl
    exact ⟨rfl, rfl, rfl, rfl, by omega, by omega⟩

set_option maxRecDepth 100000 in
set_option maxHeartbeats 800000 in
theorem walk (a0 : Option Addr) (len0 cap0 : Nat) (z0 : List Int) (w : World) (w0 : IsRow .u8 w a0 len0 cap0 z0) :
    Calls Try.prog 6 #[.slice a0 len0 cap0] w fun e w' => e = .returned (.bool true) ∧ Below w.heap.size w w' := by
  have hn := w0.bd
  have HI := Lib.hid w0
  clear w0
  by_cases hbig : 1048576 < len0
  · go_enter Try.func6, Try.ntmps6
    go_wp2
    go_ret
    exact ⟨rfl, Below.refl _ _⟩
  · have hs_len0 : len0 ≤ 1048576 := by omega
    clear hbig
    go_enter Try.func6, Try.ntmps6
    go_wp2_with fail
    refine (drawShardRecover_any _ _ _ z0 _ HI.out).mono ?_
    rintro e w1 ⟨A, n, c, rs, ⟨hd, hrec, hnc, hcm, hn31, hn4, hb1⟩, rfl⟩
    have HC := Lib.hid (calm_drawn hd)
    have HX1 := Lib.hid (Bx.mk0 (c := c) hrec)
    have HB1 : Hid (Below w.heap.size w (w1.alloc (.cells #[.slice A n c] 25))) := hb1.alloc hb1.size _
    clear hd hrec hn4 hb1
    go_wp2_with fail
    refine (implRecover_any A n c rs _ w.heap.size hnc hcm HX1.out.recs HC.out).mono ?_
    rintro e w2 ⟨A1, k1, c1, A2, k2, c2, x1, x2, hF1, hF2, hy, hno, hb2, rfl⟩
    have HX2 := Lib.hid ((HX1.out.bel hb2).alloc (.cells #[.slice A1 k1 c1, .slice A2 k2 c2] 30))
    have HS2 := Lib.hid (Sx.mk0 (c1 := c1) (c2 := c2) (hF1.low (lo' := w.heap.size) HB1.out.size) (hF2.low HB1.out.size))
    have HB2 : Hid (Below w.heap.size w (w2.alloc (.cells #[.slice A1 k1 c1, .slice A2 k2 c2] 30))) := (below_tr HB1.out (Nat.le_refl _) hb2).alloc (below_tr HB1.out (Nat.le_refl _) hb2).size _
    have p2 := (HX1.out.bel hb2).cell
    have l2 := (HX1.out.bel hb2).lt
    have HY := Lib.hid hy
    have HNO := Lib.hid hno
    clear hF1 hF2 hy hno hb2
    go_wp2_with fail
    refine (specRecover_any A n c rs _ w.heap.size hnc hcm HB2.out.size HX2.out.recs).mono ?_
    rintro e w3 ⟨B1, j1, d1, B2, j2, d2, y1, y2, hG1, hG2, hy', hno', hb3, rfl⟩
    have HX3 := Lib.hid ((HX2.out.bel hb3).alloc (.cells #[.slice B1 j1 d1, .slice B2 j2 d2] 30))
    have HS3 := Lib.hid ((HS2.out.bel hb3).alloc (.cells #[.slice B1 j1 d1, .slice B2 j2 d2] 30))
    have HT3 := Lib.hid (Sx.mk0 (c1 := d1) (c2 := d2) (hG1.low (lo' := w.heap.size) HB2.out.size) (hG2.low HB2.out.size))
    have HB3 : Hid (Below w.heap.size w (w3.alloc (.cells #[.slice B1 j1 d1, .slice B2 j2 d2] 30))) := (below_tr HB2.out (Nat.le_refl _) hb3).alloc (below_tr HB2.out (Nat.le_refl _) hb3).size _
    have p3 := (HX2.out.bel hb3).cell
    have l3 := (HX2.out.bel hb3).lt
    have q30 := (HS2.out.bel hb3).cell0
    have q31 := (HS2.out.bel hb3).cell1
    have m3 := (HS2.out.bel hb3).lt
    obtain ⟨rfl, rfl, rfl, rfl, hk1, hk2⟩ := ret_of HY.out HNO.out hy' hno'
    have hq : (shardB (abs rs) != shardB (abs rs)) = false := by simp
    have hq2 : (shardB (abs rs) == shardB (abs rs)) = true := by simp
    clear hG1 hG2 hb3 hy' hno'
    go_wp2_with fail
    refine (sameState_any A1 B1 A2 B2 _ _ _ _ _ _ _ _ _ _ _ _ _ (by omega) (by omega) HS3.out.refs HT3.out.refs HS3.out.locks HT3.out.locks).mono ?_
    rintro e w4 ⟨rfl, hb4⟩
    have HX4 := Lib.hid (HX3.out.bel hb4)
    have HS4 := Lib.hid (HS3.out.bel hb4)
    have HT4 := Lib.hid (HT3.out.bel hb4)
    have HB4 := Lib.hid (below_tr HB3.out (Nat.le_refl _) hb4)
    have p4 := HX4.out.cell
    have l4 := HX4.out.lt
    have q40 := HS4.out.cell0
    have q41 := HS4.out.cell1
    have m4 := HS4.out.lt
    have t40 := HT4.out.cell0
    have t41 := HT4.out.cell1
    have n4 := HT4.out.lt
    clear hb4
    rcases hv : shardB (abs rs) with _ | _
    · simp only [hv] at hq hq2
      go_wp2_with fail
      refine (sameState_any A1 B1 A2 B2 _ _ _ _ _ _ _ _ _ _ _ _ _ (by omega) (by omega) HS4.out.refs HT4.out.refs HS4.out.locks HT4.out.locks).mono ?_
      rintro e w5 ⟨rfl, hb5⟩
      have HB5 := Lib.hid (below_tr HB4.out (Nat.le_refl _) hb5)
      go_wp2_with fail
      go_ret
      exact ⟨rfl, HB5.out⟩
    · simp only [hv] at hq hq2
      have HV := Lib.hid hv
      obtain ⟨rfl, rfl, rfl, rfl⟩ := HY.out hv
      go_wp2_with fail
      go_loopw [8] (fun t wr => ∃ k : Nat, k ≤ 12 ∧ t = .int .i64 k ∧ Bx w.heap.size wr w1.heap.size A n c rs ∧ Sx w.heap.size wr w2.heap.size A1 4 c1 A2 4 c2 (recov (abs rs)).1.refs (recov (abs rs)).1.locks ∧ Below w.heap.size w wr) (fun t _ => 12 - (intOf t).toNat)
      case atStart => exact ⟨0, Nat.zero_le _, rfl, HX4.out, HS4.out, HB4.out⟩
      case round =>
        obtain ⟨k, hk, rfl, hx, hs, hb⟩ := hrel
        have HXR := Lib.hid hx
        have HSR := Lib.hid hs
        have HBR := Lib.hid hb
        have pr := hx.cell
        have lr := hx.lt
        have qr := hs.cell1
        have mr := hs.lt
        clear hx hs hb HX4 HB4 HS4 HT4 HX3 HB3 HS3 HT3 HX2 HB2 HS2 HX1 HB1 p2 l2 p3 l3 q30 q31 m3 p4 l4 q40 q41 m4 t40 t41 n4
        by_cases hlt : k < 12
        · have HIFF := Lib.hid (lof_ask HV.out hlt)
          have HLR : Hid (FlH ci wr.drew w.heap.size A2 4 (recov (abs rs)).1.locks) := HSR.out.locks.drewN 1
          go_wp2_with fail
          go_region_held3 (fun w' => w'.cell? ⟨w2.heap.size, 1, none⟩ = some (.slice A2 4 c2) ∧ w'.cell? ⟨w1.heap.size, 0, none⟩ = some (.slice A n c)) (go_keep)
            (first
              | (go_at_call 26; (refine (implLocksOf_any A2 4 c2 (recov (abs rs)).1.locks k _ w.heap.size (by omega) HLR.out).mono ?_); rintro e w6 ⟨D, m, d, rfl, hmd, hd, hF6, hb6'⟩; have hb6 : Below wr.heap.size wr w6 := ⟨hb6'.os, hb6'.tape, hb6'.output, hb6'.size, hb6'.block⟩; have HX6 := Lib.hid (HXR.out.bel hb6); have HS6 := Lib.hid (HSR.out.bel hb6); have HB6 := Lib.hid (below_tr HBR.out (Nat.le_refl _) hb6); have HM6 := Lib.hid hF6.1; have p6 : w6.cell? ⟨w1.heap.size, 0, none⟩ = some (.slice A n c) := (HXR.out.bel hb6).cell; have q6 : w6.cell? ⟨w2.heap.size, 1, none⟩ = some (.slice A2 4 c2) := (HSR.out.bel hb6).cell1; clear hb6' hb6 hF6)
              | (go_at_call 17; (refine (implAsk_any A n c rs k _ w.heap.size hnc hcm HX6.out.recs HC.out).mono ?_); rintro e w7 ⟨rfl, hb7⟩; have HX7 := Lib.hid (HX6.out.bel hb7); have HS7 := Lib.hid (HS6.out.bel hb7); have HB7 := Lib.hid (below_tr HB6.out (Nat.le_refl _) hb7); have p7 : w7.cell? ⟨w1.heap.size, 0, none⟩ = some (.slice A n c) := (HX6.out.bel hb7).cell; have q7 : w7.cell? ⟨w2.heap.size, 1, none⟩ = some (.slice A2 4 c2) := (HS6.out.bel hb7).cell1; clear hb7))
          have hiff := HIFF.out
          rw [HM6.out] at hiff
          have hb : (!(decide (0 < m) == (askV (abs rs) k == 1))) = false := by
            by_cases hm : 0 < m
            · rw [hiff.1 hm]; simp [hm]
            · have : (askV (abs rs) k == 1) = false := by rw [beq_eq_false_iff_ne]; exact fun h => hm (hiff.2 h)
              rw [this]; simp [hm]
          rw [hb]
          clear hiff
          go_wp2_with fail
          exact ⟨⟨k + 1, by omega, by go_num, HX7.out, HS7.out, HB7.out⟩, by simp [intOf]; omega⟩
        · have hk12 : k = 12 := by omega
          subst hk12
          go_wp2_with fail
          go_ret
          exact ⟨rfl, HBR.out⟩

set_option linter.unusedVariables false
set_option maxRecDepth 100000 in
theorem lifted (os : Os) (started : os.Started) (H : Type) (enc : TypeId × Value → H) :
    ReturnsInHanded {} Try.checked os 6 .any (Rows.fnLocksPreparedSpec.pre6 enc Try.prog Try.f6 Rows.fnLocksPreparedRow.domain false) (Rows.fnLocksPreparedSpec.post enc Try.prog Try.f6 false true false false) := by
  refine returnsInHanded_of_change (C := Try.checked) Try.own started (by kernel_rfl) Try.func6
    (ChangeSpec.witness6 (enc := enc) (C := Try.checked) false ⟨#[], #[.slice none 0 0], []⟩ 8 (by kernel_rfl) (by kernel_rfl) (by kernel_rfl) (by kernel_rfl)) ?_
  intro W base args ds gs before hval0 hW hcnd _
  have hval : ∀ (j : Nat) t v, Try.f6.params[j]? = some t → args[j]? = some v → Value.okWide Try.prog W .any base t v := hval0
  have hW' := hW
  obtain ⟨p, q, hA0, hV, rfl, hfz, hnd⟩ := hW
  have hA : DataW.TrodAll enc Try.prog W 0 (fun _ => true) true Try.f6.params.toList args.toList ds p := hA0
  rw [Try.params6] at hA hval
  obtain ⟨v0, vs0, d0, ds0, p0, q0, hargs, rfl, rfl, h0, r0⟩ := trodAll_cons hA
  obtain ⟨rfl, rfl, rfl⟩ := trodAll_nil r0
  obtain rfl : args = #[v0] := by cases args; simp_all
  obtain ⟨rfl, rfl⟩ := trodVars_none hV
  have k0 := h0
  have lt0 : ∀ x ∈ p0, x.block < W.heap.size := by obtain ⟨m, hm⟩ := k0; exact DataW.trod_lt m _ _ _ hm
  obtain ⟨a0, len0, cap0, rfl⟩ := okWide_slice Try.underlying22 (hval 0 22 v0 rfl rfl)
  obtain ⟨z0, w0⟩ := open_row (k := .u8) Try.underlying22 Try.underlying5 (by kernel_rfl) h0 (fun _ => rfl)
  clear hA0 hval0
  refine (walk a0 len0 cap0 z0 W w0).mono fun e W' ⟨he, bel⟩ => ?_
  subst he
  exact ⟨_, rfl, _, _, _, [], _, [], hW', trodAll_mk1 (shut_bool Try.underlying4 _), (trodAll_cons_mk (Below.trod Try.laidOut (by kernel_rfl) (of_decide_eq_true (by kernel_rfl)) k0 bel lt0) trodAll_mk0), rfl, bel.frame _, fun h => by cases h⟩

theorem proved : Rows.FnLocksPreparedSaid :=
  OpenClaim.holds_of_wide 6 Try.f6 rfl rfl rfl rfl rfl rfl rfl ⟨rfl, rfl, rfl, rfl, rfl⟩ rfl rfl rfl rfl rfl (by kernel_rfl) Try.func6 (by kernel_rfl)
    (of_decide_eq_true (by kernel_rfl)) (by unfold Func.isWrapper; first | (rw [if_pos (by decide +kernel)]; kernel_rfl) | (rw [if_neg (by decide +kernel)]; exact ⟨rfl, rfl⟩))
    (fun os started H enc _ => lifted os started H enc)

#print axioms proved
end Go.Proofs.Ytgnhanbdfohjaaa.fnLocksPrepared
