/-
  The walks of the reference's l22Parts: whether parts are valid. Condition: lengths fit an int64.
-/
import Derived.Test.YtgbkjfhmbchiiaaCoordI
import Derived.Test.YtgbkjfhmbchiiaaRefsV
import Derived.Test.YtgbkjfhmbchiiaaQuietB
import Derived.Deep.DeepCutAuto
import Derived.Deep.CutBlock
namespace Go.Proofs.Ytgbkjfhmbchiiaa
set_option linter.unusedVariables false
set_option linter.unusedSimpArgs false
open Go.RowKit

set_option maxHeartbeats 3200000 in
set_option maxRecDepth 100000 in
theorem l22Parts_any (ps : List PartD) (A : Option Addr) (n c : Nat) (w : World) (lo hi : Nat) (hh : hi ≤ w.heap.size) (h : D.rd w lo hi (dParts ps) (.slice A n c)) :
    Calls Try.prog 50 #[.slice A n c] w fun e w' => e = .returned (.bool (partsB ps)) ∧ Below w.heap.size w w' := by
  have HI := Lib.hid h
  have HN := Lib.hid h.len.1
  have hn63 : n ≤ 9223372036854775807 := by have := h.len; omega
  clear h
  go_enter Try.func50, Try.ntmps50
  go_wp2_with fail
  go_loopw [3] (fun i wr => ∃ k : Nat, k ≤ n ∧ i = .int .i64 k ∧ Hid (allTo (partAt ps) k = true) ∧ Below w.heap.size w wr) (fun i _ => n - (intOf i).toNat)
  case atStart => exact ⟨0, Nat.zero_le _, rfl, rfl, Below.refl _ _⟩
  case round =>
    obtain ⟨k, hk, rfl, HT, hb⟩ := hrel
    have HB := Lib.hid hb
    have hwsz := hb.size
    clear hb
    by_cases hlt : k < n
    · obtain ⟨b, o, hl, A1, n1, c1, rfl, _, hbh, hc0, hc1, ⟨hn1, hm1, hr1⟩⟩ := rd_Part (HI.out.below HB.out hh) hlt
      have hbw : b < wr.heap.size := by omega
      have hhr : hi ≤ wr.heap.size := by omega
      have HB2 := HB
      have HU := Lib.hid hr1.upds
      have HQ : Hid (∀ (v : Value) (q : Addr), wr.cell? q = some v → wr.cell? q = some v) := fun v q he => he
      have hq0 : ∀ p : BelBy wr, p.w.cell? ⟨b, o + k * 2, none⟩ = some (.int .i64 ps[k].shard) := fun p => p.cell hc0
      have hq1 : ∀ p : BelBy wr, p.w.cell? ⟨b, o + k * 2 + 1, none⟩ = some (.slice A1 n1 c1) := fun p => p.cell hc1
      have hh2 := hhr
      clear hr1
      rcases g1 : inR ps[k].shard 0 2 with _ | _
      · have hno := Lib.hid (part_no1 hl g1)
        go_wp2_with fail
        refine quiet_bel (by kernel_rfl) (by kernel_rfl) ?_
        repeat (go_big_quiet_step (first | (go_at_call 41; exact bel_same (l6In_any _ _ _ _)) | (go_at_call 69; exact bel_call (specUpds_any A1 n1 c1 ps[k].us _ lo hi (Nat.le_trans hh2 (BelBy.h _).size) (by omega) (Fl.below HU.out (BelBy.h _) hh2)))))
        refine wpQuiet_nil ?_
        intro _ hw'
        obtain ⟨⟨wz, hbz⟩, rfl⟩ := hw'
        have HBZ := Lib.hid (bel_tr HB2.out (Nat.le_refl _) hbz)
        clear hbz hq0 hq1
        go_wp2_with fail
        go_ret
        exact ⟨ret_bool hno.out.symm, HBZ.out⟩
      · rcases g2 : updsB ps[k].us with _ | _
        · have hno := Lib.hid (part_no2 hl g2)
          go_wp2_with fail
          refine quiet_bel (by kernel_rfl) (by kernel_rfl) ?_
          repeat (go_big_quiet_step (first | (go_at_call 41; exact bel_same (l6In_any _ _ _ _)) | (go_at_call 69; exact bel_call (specUpds_any A1 n1 c1 ps[k].us _ lo hi (Nat.le_trans hh2 (BelBy.h _).size) (by omega) (Fl.below HU.out (BelBy.h _) hh2)))))
          refine wpQuiet_nil ?_
          intro _ hw'
          obtain ⟨⟨wz, hbz⟩, rfl⟩ := hw'
          have HBZ := Lib.hid (bel_tr HB2.out (Nat.le_refl _) hbz)
          clear hbz hq0 hq1
          go_wp2_with fail
          go_ret
          exact ⟨ret_bool hno.out.symm, HBZ.out⟩
        · rcases k with _ | k
          · have hyes := Lib.hid (part_yes0 hl g1 g2)
            simp only [Nat.zero_mul, Nat.add_zero] at hc0 hc1 hq0 hq1
            go_wp2_with fail
            refine quiet_bel (by kernel_rfl) (by kernel_rfl) ?_
            repeat (go_big_quiet_step (first | (go_at_call 41; exact bel_same (l6In_any _ _ _ _)) | (go_at_call 69; exact bel_call (specUpds_any A1 n1 c1 ps[0].us _ lo hi (Nat.le_trans hh2 (BelBy.h _).size) (by omega) (Fl.below HU.out (BelBy.h _) hh2)))))
            refine wpQuiet_nil ?_
            intro _ hw'
            obtain ⟨⟨wz, hbz⟩, rfl⟩ := hw'
            have HBZ := Lib.hid (bel_tr HB2.out (Nat.le_refl _) hbz)
            clear hbz hq0 hq1
            go_wp2_with fail
            exact ⟨⟨1, by omega, by go_num, allTo_succ HT.out hyes.out, HBZ.out⟩, by simp [intOf]; omega⟩
          · obtain ⟨b1, o1, hl1, B1, m1, d1, he1, _, _, hv0, -, -⟩ := rd_Part (HI.out.below HB.out hh) (k := k) (by omega)
            injection he1 with he1
            injection he1 with ea eb ec
            subst ea eb
            have hwk : IntKind.i64.wrap (k : Int) = (k : Int) := IntWalk.i64_in _ (by omega)
            have hkn1 : (k : Int) < (n : Int) := by omega
            have hkn2 : k < n := by omega
            have hq2 : ∀ p : BelBy wr, p.w.cell? ⟨b, o + k * 2, none⟩ = some (.int .i64 ps[k].shard) := fun p => p.cell (HQ.out _ _ hv0)
            by_cases g6 : ps[k + 1].shard ≤ ps[k].shard
            · have hno := Lib.hid (part_no3 hl g6)
              go_wp2_with fail
              refine quiet_bel (by kernel_rfl) (by kernel_rfl) ?_
              repeat (go_big_quiet_step (first | (go_at_call 41; exact bel_same (l6In_any _ _ _ _)) | (go_at_call 69; exact bel_call (specUpds_any A1 n1 c1 ps[k + 1].us _ lo hi (Nat.le_trans hh2 (BelBy.h _).size) (by omega) (Fl.below HU.out (BelBy.h _) hh2)))))
              refine wpQuiet_nil ?_
              intro _ hw'
              obtain ⟨⟨wz, hbz⟩, rfl⟩ := hw'
              have HBZ := Lib.hid (bel_tr HB2.out (Nat.le_refl _) hbz)
              clear hbz hq0 hq1 hq2
              go_wp2_with fail
              go_ret
              exact ⟨ret_bool hno.out.symm, HBZ.out⟩
            · have hyes := Lib.hid (part_yes hl g1 g2 (by omega))
              have hd6 : decide (ps[k + 1].shard ≤ ps[k].shard) = false := decide_eq_false g6
              go_wp2_with fail
              refine quiet_bel (by kernel_rfl) (by kernel_rfl) ?_
              repeat (go_big_quiet_step (first | (go_at_call 41; exact bel_same (l6In_any _ _ _ _)) | (go_at_call 69; exact bel_call (specUpds_any A1 n1 c1 ps[k + 1].us _ lo hi (Nat.le_trans hh2 (BelBy.h _).size) (by omega) (Fl.below HU.out (BelBy.h _) hh2)))))
              refine wpQuiet_nil ?_
              intro _ hw'
              obtain ⟨⟨wz, hbz⟩, rfl⟩ := hw'
              have HBZ := Lib.hid (bel_tr HB2.out (Nat.le_refl _) hbz)
              clear hbz hq0 hq1 hq2
              go_wp2_with fail
              exact ⟨⟨k + 1 + 1, by omega, by go_num, allTo_succ HT.out hyes.out, HBZ.out⟩, by simp [intOf]; omega⟩
    · have hkn : k = n := by omega
      subst hkn
      have hres : Hid (partsB ps = decide (0 < k)) := by
        show _ = _
        unfold partsB
        rw [← HN.out, HT.out]; rfl
      go_wp2_with fail
      go_ret
      exact ⟨ret_bool (by first | (rw [hres.out]; done) | (rw [hres.out]; simp)), HB.out⟩

end Go.Proofs.Ytgbkjfhmbchiiaa
