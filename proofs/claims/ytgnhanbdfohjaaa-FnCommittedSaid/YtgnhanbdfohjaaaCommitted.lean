/-
  For every code: ShardCommitted of a drawn shard answers as the reference, and names just the transactions that are committed. No condition.
-/
import Derived.Test.YtgnhanbdfohjaaaLawS
namespace Go.Proofs.Ytgnhanbdfohjaaa.fnCommitted
set_option linter.unusedVariables false
set_option linter.unusedSimpArgs false
open Go.ChangeShapes Go.WideShapes Go.ChangeAt Go.RowKit

set_option maxRecDepth 100000 in
set_option maxHeartbeats 800000 in
theorem walk (a0 : Option Addr) (len0 cap0 : Nat) (z0 : List Int) (w : World) (w0 : IsRow .u8 w a0 len0 cap0 z0) :
    Calls Try.prog 5 #[.slice a0 len0 cap0] w fun e w' => e = .returned (.bool true) ∧ Below w.heap.size w w' := by
  have hn := w0.bd
  have HI := Lib.hid w0
  clear w0
  by_cases hbig : 1048576 < len0
  · go_enter Try.func5, Try.ntmps5
    go_wp2
    go_ret
    exact ⟨rfl, Below.refl _ _⟩
  · have hs_len0 : len0 ≤ 1048576 := by omega
    clear hbig
    go_enter Try.func5, Try.ntmps5
    go_wp2_with fail
    refine (drawShardCommitted_any _ _ _ z0 _ HI.out).mono ?_
    rintro e w1 ⟨A, n, c, rs, ⟨hd, hrec, hnc, hcm, hn31, hn4, hb1⟩, rfl⟩
    have HC := Lib.hid (calm_drawn hd)
    have HX1 := Lib.hid (Bx.mk0 (c := c) hrec)
    have HB1 : Hid (Below w.heap.size w (w1.alloc (.cells #[.slice A n c] 25))) := hb1.alloc hb1.size _
    clear hd hrec hn4 hb1
    go_wp2_with fail
    refine (implCommitted_any A n c rs _ w.heap.size (by omega) hnc hcm HX1.out.recs HC.out).mono ?_
    rintro e w2 ⟨B1, m1, d1, rfl, hmd1, hd1, hF1, hb2⟩
    have HX2 := Lib.hid (HX1.out.bel hb2)
    have HB2 := Lib.hid (below_tr HB1.out (Nat.le_refl _) hb2)
    have k2 := HX2.out.cell
    have l2 := HX2.out.lt
    have HF2 := Lib.hid (hF1.low (lo' := w.heap.size) HB1.out.size)
    clear hF1 hb2
    go_wp2_with fail
    refine (specCommitted_any A n c rs _ w.heap.size (by omega) hnc hcm HB2.out.size HX2.out.recs).mono ?_
    rintro e w3 ⟨B2, m2, d2, rfl, hmd2, hd2, hG1, hb3⟩
    obtain rfl : m2 = m1 := hG1.1.symm.trans HF2.out.1
    have HX3 := Lib.hid (HX2.out.bel hb3)
    have HB3 := Lib.hid (below_tr HB2.out (Nat.le_refl _) hb3)
    have k3 := HX3.out.cell
    have l3 := HX3.out.lt
    have HF3 := Lib.hid (HF2.out.bel hb3)
    have HG3 := Lib.hid (hG1.low (lo' := w.heap.size) HB2.out.size)
    have hm63 : m2 ≤ 9223372036854775807 := by omega
    clear hG1 hb3
    go_wp2_with fail
    refine (sameInts_any B1 B2 m2 d1 d2 (comV (abs rs)) _ _ _ _ _ hm63 HF3.out HG3.out).mono ?_
    rintro e w4 ⟨rfl, q4, rfl⟩
    go_wp2_with fail
    refine (specValid_any A n c rs (w3.drewN q4) w.heap.size hnc hcm HB3.out.size (HX3.out.recs.drewN q4)).mono ?_
    rintro e w5 ⟨rfl, hb5⟩
    have HX5 := Lib.hid ((HX3.out.drewN q4).bel hb5)
    have HB5 := Lib.hid (below_tr (below_draw HB3.out q4) (Nat.le_refl _) hb5)
    have k5 := HX5.out.cell
    have l5 := HX5.out.lt
    have HF5 := Lib.hid ((HF3.out.drewN q4).bel hb5)
    have HG5 := Lib.hid ((HG3.out.drewN q4).bel hb5)
    clear hb5
    rcases hv : shardB (abs rs) with _ | _
    · go_wp2_with fail
      refine (sameInts_any B1 B2 m2 d1 d2 (comV (abs rs)) _ _ _ _ _ hm63 HF5.out HG5.out).mono ?_
      rintro e w6 ⟨rfl, q6, rfl⟩
      go_wp2_with fail
      go_ret
      exact ⟨rfl, below_draw HB5.out q6⟩
    · have HV := Lib.hid hv
      go_wp2_with fail
      go_loopw [6, 7] (fun v t wr => ∃ k : Nat, k ≤ 12 ∧ t = .int .i64 k ∧ v = .int .i64 (cntL (comV (abs rs)) k) ∧ Bx w.heap.size wr w1.heap.size A n c rs ∧ FlH ci wr w.heap.size B1 m2 (comV (abs rs)) ∧ Below w.heap.size w wr) (fun _ t _ => 12 - (intOf t).toNat)
      case atStart => exact ⟨0, Nat.zero_le _, rfl, rfl, HX5.out, HF5.out, HB5.out⟩
      case round =>
        obtain ⟨k, hk, rfl, rfl, hx, hf, hb⟩ := hrel
        have HXR := Lib.hid hx
        have HFR := Lib.hid hf
        have HBR := Lib.hid hb
        have kr := hx.cell
        have lr := hx.lt
        clear hx hf hb HX5 HB5 HF5 HG5 HX3 HB3 HF3 HG3 HX2 HB2 HF2 HX1 HB1
        have hcl := cntL_le (comV (abs rs)) k
        by_cases hlt : k < 12
        · have hiff := ask_com HV.out hlt
          rcases Decidable.em ((k : Int) ∈ comV (abs rs)) with hm | hm
          · have hq : (askV (abs rs) k == 2) = true := by simpa using hiff.2 hm
            have hdm : decide ((k : Int) ∈ comV (abs rs)) = true := decide_eq_true hm
            have hcn := Lib.hid (cntL_yes hm)
            clear hiff hm
            go_wp2_with fail
            refine (implAsk_any A n c rs k _ w.heap.size hnc hcm HXR.out.recs HC.out).mono ?_
            rintro e w7 ⟨rfl, hb7⟩
            have HX7 := Lib.hid (HXR.out.bel hb7)
            have HF7 := Lib.hid (HFR.out.bel hb7)
            have HB7 := Lib.hid (below_tr HBR.out (Nat.le_refl _) hb7)
            clear hb7
            go_wp2_with fail
            refine (hasInt_any B1 m2 d1 (comV (abs rs)) k _ w.heap.size hm63 HF7.out).mono ?_
            rintro e w8 ⟨rfl, rfl⟩
            go_wp2_with fail
            exact ⟨⟨k + 1, by omega, by go_num, by rw [hcn.out]; go_num, HX7.out, HF7.out, HB7.out⟩, by simp [intOf]; omega⟩
          · have hq : (askV (abs rs) k == 2) = false := by rw [beq_eq_false_iff_ne]; exact fun h => hm (hiff.1 h)
            have hdm : decide ((k : Int) ∈ comV (abs rs)) = false := decide_eq_false hm
            have hcn := Lib.hid (cntL_no hm)
            clear hiff hm
            go_wp2_with fail
            refine (implAsk_any A n c rs k _ w.heap.size hnc hcm HXR.out.recs HC.out).mono ?_
            rintro e w7 ⟨rfl, hb7⟩
            have HX7 := Lib.hid (HXR.out.bel hb7)
            have HF7 := Lib.hid (HFR.out.bel hb7)
            have HB7 := Lib.hid (below_tr HBR.out (Nat.le_refl _) hb7)
            clear hb7
            go_wp2_with fail
            refine (hasInt_any B1 m2 d1 (comV (abs rs)) k _ w.heap.size hm63 HF7.out).mono ?_
            rintro e w8 ⟨rfl, rfl⟩
            go_wp2_with fail
            exact ⟨⟨k + 1, by omega, by go_num, by rw [hcn.out], HX7.out, HF7.out, HB7.out⟩, by simp [intOf]; omega⟩
        · have hk12 : k = 12 := by omega
          subst hk12
          have hcc : cntL (comV (abs rs)) 12 = m2 := (com_count HV.out).trans HFR.out.1
          have hb12 : ((cntL (comV (abs rs)) 12 : Int) == (m2 : Int)) = true := by rw [hcc]; simp
          clear hcc
          go_wp2_with fail
          go_ret
          exact ⟨rfl, HBR.out⟩

set_option linter.unusedVariables false
set_option maxRecDepth 100000 in
theorem lifted (os : Os) (started : os.Started) (H : Type) (enc : TypeId × Value → H) :
    ReturnsInHanded {} Try.checked os 5 .any (Rows.fnCommittedSpec.pre6 enc Try.prog Try.f5 Rows.fnCommittedRow.domain false) (Rows.fnCommittedSpec.post enc Try.prog Try.f5 false true false false) := by
  refine returnsInHanded_of_change (C := Try.checked) Try.own started (by kernel_rfl) Try.func5
    (ChangeSpec.witness6 (enc := enc) (C := Try.checked) false ⟨#[], #[.slice none 0 0], []⟩ 8 (by kernel_rfl) (by kernel_rfl) (by kernel_rfl) (by kernel_rfl)) ?_
  intro W base args ds gs before hval0 hW hcnd _
  have hval : ∀ (j : Nat) t v, Try.f5.params[j]? = some t → args[j]? = some v → Value.okWide Try.prog W .any base t v := hval0
  have hW' := hW
  obtain ⟨p, q, hA0, hV, rfl, hfz, hnd⟩ := hW
  have hA : DataW.TrodAll enc Try.prog W 0 (fun _ => true) true Try.f5.params.toList args.toList ds p := hA0
  rw [Try.params5] at hA hval
  obtain ⟨v0, vs0, d0, ds0, p0, q0, hargs, rfl, rfl, h0, r0⟩ := trodAll_cons hA
  obtain ⟨rfl, rfl, rfl⟩ := trodAll_nil r0
  obtain rfl : args = #[v0] := by cases args; simp_all
  obtain ⟨rfl, rfl⟩ := trodVars_none hV
  have k0 := h0
  have lt0 : ∀ x ∈ p0, x.block < W.heap.size := by obtain ⟨m, hm⟩ := k0; exact DataW.trod_lt m _ _ _ hm
  obtain ⟨a0, len0, cap0, rfl⟩ := okWide_slice Try.underlying22 (hval 0 22 v0 rfl rfl)
  obtain ⟨z0, w0⟩ := open_row (k := .u8) Try.underlying22 Try.underlying5 (by kernel_rfl) h0 (fun _ => rfl)
  clear hA0 hval0
  refine (walk a0 len0 cap0 z0 W w0).mono fun e W' ⟨he, bel⟩ => ?_
  subst he
  exact ⟨_, rfl, _, _, _, [], _, [], hW', trodAll_mk1 (shut_bool Try.underlying4 _), (trodAll_cons_mk (Below.trod Try.laidOut (by kernel_rfl) (of_decide_eq_true (by kernel_rfl)) k0 bel lt0) trodAll_mk0), rfl, bel.frame _, fun h => by cases h⟩

theorem proved : Rows.FnCommittedSaid :=
  OpenClaim.holds_of_wide 5 Try.f5 rfl rfl rfl rfl rfl rfl rfl ⟨rfl, rfl, rfl, rfl, rfl⟩ rfl rfl rfl rfl rfl (by kernel_rfl) Try.func5 (by kernel_rfl)
    (of_decide_eq_true (by kernel_rfl)) (by unfold Func.isWrapper; first | (rw [if_pos (by decide +kernel)]; kernel_rfl) | (rw [if_neg (by decide +kernel)]; exact ⟨rfl, rfl⟩))
    (fun os started H enc _ => lifted os started H enc)

#print axioms proved
end Go.Proofs.Ytgnhanbdfohjaaa.fnCommitted
