/-
  For every two codes: ShardValid of a drawn shard answers as the reference; what the first records tell has locks of prepared transactions alone. No condition.
-/
import Derived.Test.YtgnhanbdfohjaaaLawS
namespace Go.Proofs.Ytgnhanbdfohjaaa.fnRecover
set_option linter.unusedVariables false
set_option linter.unusedSimpArgs false
open Go.ChangeShapes Go.WideShapes Go.ChangeAt Go.RowKit

set_option maxRecDepth 100000 in
set_option maxHeartbeats 800000 in
theorem walk (a0 : Option Addr) (len0 cap0 : Nat) (z0 : List Int) (a1 : Option Addr) (len1 cap1 : Nat) (z1 : List Int) (w : World) (w0 : IsRow .u8 w a0 len0 cap0 z0) (w1 : IsRow .u8 w a1 len1 cap1 z1) :
    Calls Try.prog 3 #[.slice a0 len0 cap0, .slice a1 len1 cap1] w fun e w' => e = .returned (.bool true) ∧ Below w.heap.size w w' := by
  have hn := w0.bd
  have hn' := w1.bd
  have HI := Lib.hid w0
  clear w0 w1
  by_cases hbig : 1048576 < len0
  · go_enter Try.func3, Try.ntmps3
    go_wp2
    go_ret
    exact ⟨rfl, Below.refl _ _⟩
  by_cases hbig' : 1048576 < len1
  · go_enter Try.func3, Try.ntmps3
    go_wp2
    go_ret
    exact ⟨rfl, Below.refl _ _⟩
  · have hs_len0 : len0 ≤ 1048576 := by omega
    have hs_len1 : len1 ≤ 1048576 := by omega
    clear hbig hbig'
    go_enter Try.func3, Try.ntmps3
    go_wp2_with fail
    refine (drawShardValid_any _ _ _ z0 _ HI.out).mono ?_
    rintro e w1 ⟨A, n, c, rs, ⟨hd, hrec, hnc, hcm, hn31, hn4, hb1⟩, rfl⟩
    have HC := Lib.hid (calm_drawn hd)
    have HX1 := Lib.hid (Bx.mk0 (c := c) hrec)
    have HB1 : Hid (Below w.heap.size w (w1.alloc (.cells #[.slice A n c] 25))) := hb1.alloc hb1.size _
    clear hd hrec hn4 hb1
    go_wp2_with fail
    refine (implValid_any A n c rs _ w.heap.size hnc hcm HX1.out.recs HC.out).mono ?_
    rintro e w2 ⟨rfl, hb2⟩
    have HX2 := Lib.hid (HX1.out.bel hb2)
    have HB2 := Lib.hid (below_tr HB1.out (Nat.le_refl _) hb2)
    have k2 := HX2.out.cell
    have l2 := HX2.out.lt
    clear hb2
    go_wp2_with fail
    refine (specValid_any A n c rs _ w.heap.size hnc hcm HB2.out.size HX2.out.recs).mono ?_
    rintro e w3 ⟨rfl, hb3⟩
    have HX3 := Lib.hid (HX2.out.bel hb3)
    have HB3 := Lib.hid (below_tr HB2.out (Nat.le_refl _) hb3)
    have k3 := HX3.out.cell
    have l3 := HX3.out.lt
    have hq : (shardB (abs rs) != shardB (abs rs)) = false := by simp
    have hq2 : (shardB (abs rs) == shardB (abs rs)) = true := by simp
    clear hb3
    rcases hv : shardB (abs rs) with _ | _
    · simp only [hv] at hq hq2
      go_wp2_with fail
      go_ret
      exact ⟨rfl, HB3.out⟩
    · simp only [hv] at hq hq2
      have HV := Lib.hid hv
      obtain ⟨m, hmn, hmod⟩ : ∃ m : Nat, m ≤ n ∧ Int.tmod (len1 : Int) ((n : Int) + 1) = (m : Int) := by
        refine ⟨len1 % (n + 1), Nat.le_of_lt_succ (Nat.mod_lt len1 (Nat.succ_pos n)), ?_⟩
        rw [Int.tmod_eq_emod_of_nonneg (by omega)]; rfl
      have hmi : (m : Int) ≤ (c : Int) := by omega
      have hmi0 : (0 : Int) ≤ (m : Int) := by omega
      have hz0 : ¬ ((n : Int) + 1 = 0) := by omega
      have hw1 : IntKind.i64.wrap ((n : Int) + 1) = (n : Int) + 1 := IntWalk.i64_in _ (by omega)
      go_wp2_with fail
      go_region_held3 (fun w' => w'.cell? ⟨w1.heap.size, 0, none⟩ = some (.slice A n c)) (go_keep) (fail)
      have HVT := Lib.hid (shardB_take HV.out m)
      have HX4 : Hid (Bx w.heap.size ((w3.alloc (.cells #[.slice A m c] 25)).drewN 1) w3.heap.size A m c (rs.take m)) := (Bx.mk0 (c := c) (HX3.out.recs.take hmn)).drewN 1
      have HB4 : Hid (Below w.heap.size w ((w3.alloc (.cells #[.slice A m c] 25)).drewN 1)) := below_draw (HB3.out.alloc HB3.out.size _) 1
      have HCT : Hid (Calm (abs (rs.take m))) := calm_valid (by rw [abs_take]; exact recov_valid HVT.out)
      have hmc : m ≤ c := by omega
      clear hmod hmi hmi0 hz0 hw1
      go_wp2_with fail
      refine (implRecover_any A m c (rs.take m) _ w.heap.size hmc hcm HX4.out.recs HCT.out).mono ?_
      rintro e w4 ⟨A1, k1, c1, A2, k2, c2, x1, x2, hF1, hF2, hy, -, hb4, rfl⟩
      have hb4' : Below ((w3.alloc (.cells #[.slice A m c] 25)).drewN 1).heap.size ((w3.alloc (.cells #[.slice A m c] 25)).drewN 1) w4 := hb4
      have HEQ : Hid (shardB (abs (rs.take m)) = true) := by show _ = _; rw [abs_take]; exact HVT.out
      obtain ⟨rfl, rfl, rfl, rfl⟩ := hy HEQ.out
      have HX5 := Lib.hid ((HX4.out.bel hb4').alloc (.cells #[.slice A1 4 c1, .slice A2 4 c2] 30))
      have HS5 := Lib.hid (Sx.mk0 (c1 := c1) (c2 := c2) (FlH.low (lo' := w.heap.size) hF1 HB4.out.size) (FlH.low hF2 HB4.out.size))
      have HB5 : Hid (Below w.heap.size w (w4.alloc (.cells #[.slice A1 4 c1, .slice A2 4 c2] 30))) := (below_tr HB4.out (Nat.le_refl _) hb4').alloc (below_tr HB4.out (Nat.le_refl _) hb4').size _
      clear hF1 hF2 hb4 hb4'
      rw [HEQ.out]
      go_wp2_with fail
      go_loopw [11] (fun t wr => ∃ k : Nat, k ≤ 4 ∧ t = .int .i64 k ∧ Bx w.heap.size wr w3.heap.size A m c (rs.take m) ∧ Sx w.heap.size wr w4.heap.size A1 4 c1 A2 4 c2 (recov (abs (rs.take m))).1.refs (recov (abs (rs.take m))).1.locks ∧ Below w.heap.size w wr) (fun t _ => 4 - (intOf t).toNat)
      case atStart => exact ⟨0, Nat.zero_le _, rfl, HX5.out, HS5.out, HB5.out⟩
      case round =>
        obtain ⟨k, hk, rfl, hx, hs, hb⟩ := hrel
        have HXR := Lib.hid hx
        have HSR := Lib.hid hs
        have HBR := Lib.hid hb
        have pr := hx.cell
        have lr := hx.lt
        have qr := hs.cell1
        have mr := hs.lt
        clear hx hs hb HX5 HS5 HB5 HX4 HB4 HX3 HB3 HX2 HB2 HX1 HB1 k3 l3 k2 l2
        by_cases hlt : k < 4
        · obtain ⟨b, o, hll, rfl, _, hbl, hcl⟩ := Fl.int HSR.out.locks hlt
          obtain ⟨x, hx⟩ : ∃ x, (recov (abs (rs.take m))).1.locks[k] = x := ⟨_, rfl⟩
          rw [hx] at hcl
          have HG : Hid (getR (recov (abs (rs.take m))).1.locks k = x) := by
            show _ = _
            unfold getR
            rw [List.getD_eq_getElem?_getD, Int.toNat_natCast, List.getElem?_eq_getElem hll, hx]; rfl
          have HPR : Hid (0 ≤ x → askV (abs (rs.take m)) x = 1) := by
            intro h0
            have := lock_prep HEQ.out (x := (k : Int)) (by omega) (by omega) (by rw [HG.out]; exact h0)
            rwa [HG.out] at this
          clear hx
          by_cases h0 : 0 ≤ x
          · have hak := HPR.out h0
            have HAK := Lib.hid hak
            clear HPR
            clear hak
            go_wp2_with fail
            go_region_held3 (fun w' => w'.cell? ⟨w4.heap.size, 1, none⟩ = some (.slice (some ⟨b, o, none⟩) 4 c2) ∧ w'.cell? ⟨b, o + k, none⟩ = some (.int .i64 x) ∧ w'.cell? ⟨w3.heap.size, 0, none⟩ = some (.slice A m c)) (go_keep)
              (first | (go_at_call 17; (refine (implAsk_any A m c (rs.take m) x _ w.heap.size hmc hcm (HXR.out.recs.drewN 1) HCT.out).mono ?_); rintro e w7 ⟨rfl, hb7'⟩; have hb7 : Below wr.heap.size wr w7 := ⟨hb7'.os, hb7'.tape, hb7'.output, hb7'.size, hb7'.block⟩; rw [HAK.out]; have HX7 := Lib.hid (HXR.out.bel hb7); have HS7 := Lib.hid (HSR.out.bel hb7); have HB7 := Lib.hid (below_tr HBR.out (Nat.le_refl _) hb7); have p7 : w7.cell? ⟨w3.heap.size, 0, none⟩ = some (.slice A m c) := (HXR.out.bel hb7).cell; have q7 : w7.cell? ⟨w4.heap.size, 1, none⟩ = some (.slice (some ⟨b, o, none⟩) 4 c2) := (HSR.out.bel hb7).cell1; have c7 : w7.cell? ⟨b, o + k, none⟩ = some (.int .i64 x) := (hb7.cell hbl).trans hcl; clear hb7 hb7'))
            go_wp2_with fail
            exact ⟨⟨k + 1, by omega, by go_num, HX7.out, HS7.out, HB7.out⟩, by simp [intOf]; omega⟩
          · have h0' : decide (0 ≤ x) = false := decide_eq_false h0
            clear HPR
            go_wp2_with fail
            go_quiet (fail)
            go_wp2_with fail
            exact ⟨⟨k + 1, by omega, by go_num, HXR.out.drewN nq, HSR.out.drewN nq, below_draw HBR.out nq⟩, by simp [intOf]; omega⟩
        · have hk4 : k = 4 := by omega
          subst hk4
          go_wp2_with fail
          go_ret
          exact ⟨rfl, HBR.out⟩

set_option linter.unusedVariables false
set_option maxRecDepth 100000 in
theorem lifted (os : Os) (started : os.Started) (H : Type) (enc : TypeId × Value → H) :
    ReturnsInHanded {} Try.checked os 3 .any (Rows.fnRecoverSpec.pre6 enc Try.prog Try.f3 Rows.fnRecoverRow.domain false) (Rows.fnRecoverSpec.post enc Try.prog Try.f3 false true false false) := by
  refine returnsInHanded_of_change (C := Try.checked) Try.own started (by kernel_rfl) Try.func3
    (ChangeSpec.witness6 (enc := enc) (C := Try.checked) false ⟨#[], #[.slice none 0 0, .slice none 0 0], []⟩ 8 (by kernel_rfl) (by kernel_rfl) (by kernel_rfl) (by kernel_rfl)) ?_
  intro W base args ds gs before hval0 hW hcnd _
  have hval : ∀ (j : Nat) t v, Try.f3.params[j]? = some t → args[j]? = some v → Value.okWide Try.prog W .any base t v := hval0
  have hW' := hW
  obtain ⟨p, q, hA0, hV, rfl, hfz, hnd⟩ := hW
  have hA : DataW.TrodAll enc Try.prog W 0 (fun _ => true) true Try.f3.params.toList args.toList ds p := hA0
  rw [Try.params3] at hA hval
  obtain ⟨v0, vs0, d0, ds0, p0, q0, hargs, rfl, rfl, h0, r0⟩ := trodAll_cons hA
  obtain ⟨v1, vs1, d1, ds1, p1, q1, rfl, rfl, rfl, h1, r1⟩ := trodAll_cons r0
  obtain ⟨rfl, rfl, rfl⟩ := trodAll_nil r1
  obtain rfl : args = #[v0, v1] := by cases args; simp_all
  obtain ⟨rfl, rfl⟩ := trodVars_none hV
  have k0 := h0
  have lt0 : ∀ x ∈ p0, x.block < W.heap.size := by obtain ⟨m, hm⟩ := k0; exact DataW.trod_lt m _ _ _ hm
  obtain ⟨a0, len0, cap0, rfl⟩ := okWide_slice Try.underlying22 (hval 0 22 v0 rfl rfl)
  obtain ⟨z0, w0⟩ := open_row (k := .u8) Try.underlying22 Try.underlying5 (by kernel_rfl) h0 (fun _ => rfl)
  have k1 := h1
  have lt1 : ∀ x ∈ p1, x.block < W.heap.size := by obtain ⟨m, hm⟩ := k1; exact DataW.trod_lt m _ _ _ hm
  obtain ⟨a1, len1, cap1, rfl⟩ := okWide_slice Try.underlying22 (hval 1 22 v1 rfl rfl)
  obtain ⟨z1, w1⟩ := open_row (k := .u8) Try.underlying22 Try.underlying5 (by kernel_rfl) h1 (fun _ => rfl)
  clear hA0 hval0
  refine (walk a0 len0 cap0 z0 a1 len1 cap1 z1 W w0 w1).mono fun e W' ⟨he, bel⟩ => ?_
  subst he
  exact ⟨_, rfl, _, _, _, [], _, [], hW', trodAll_mk1 (shut_bool Try.underlying4 _), (trodAll_cons_mk (Below.trod Try.laidOut (by kernel_rfl) (of_decide_eq_true (by kernel_rfl)) k0 bel lt0) (trodAll_cons_mk (Below.trod Try.laidOut (by kernel_rfl) (of_decide_eq_true (by kernel_rfl)) k1 bel lt1) trodAll_mk0)), rfl, bel.frame _, fun h => by cases h⟩

theorem proved : Rows.FnRecoverSaid :=
  OpenClaim.holds_of_wide 3 Try.f3 rfl rfl rfl rfl rfl rfl rfl ⟨rfl, rfl, rfl, rfl, rfl⟩ rfl rfl rfl rfl rfl (by kernel_rfl) Try.func3 (by kernel_rfl)
    (of_decide_eq_true (by kernel_rfl)) (by unfold Func.isWrapper; first | (rw [if_pos (by decide +kernel)]; kernel_rfl) | (rw [if_neg (by decide +kernel)]; exact ⟨rfl, rfl⟩))
    (fun os started H enc _ => lifted os started H enc)

#print axioms proved
end Go.Proofs.Ytgnhanbdfohjaaa.fnRecover
