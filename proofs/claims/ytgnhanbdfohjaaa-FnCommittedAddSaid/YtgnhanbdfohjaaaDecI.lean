/-
  The walk of ShardDecide of the program. Condition: no vote meets a locked ref; lengths in reach.
-/
import Derived.Test.YtgnhanbdfohjaaaCopyS
import Derived.Test.YtgnhanbdfohjaaaSpecK
namespace Go.Proofs.Ytgnhanbdfohjaaa
set_option linter.unusedVariables false
set_option linter.unusedSimpArgs false
open Go.RowKit
attribute [local go_sem ↓] Go.wp_at_zero Go.wp_at_succ

theorem shardB_snoc {rs : List Rec} {r : Rec} (h : shardB rs = true) : shardB (rs ++ [r]) = (stepB rs (recov rs).1 r && !decide (rs.length = 30)) := by
  unfold shardB at h ⊢
  have h1 := (Bool.and_eq_true _ _ |>.mp h).1
  have h2 : rs.length ≤ 30 := by simpa using (Bool.and_eq_true _ _ |>.mp h).2
  rw [recov_snoc, if_pos h1]
  by_cases hs : stepB rs (recov rs).1 r = true
  · rw [if_pos hs, hs]
    simp only [Bool.true_and, List.length_append, List.length_singleton]
    by_cases h3 : rs.length = 30
    · simp [h3]
    · simp [h3]; omega
  · have hs' : stepB rs (recov rs).1 r = false := by simpa using hs
    rw [if_neg hs, hs']; rfl
theorem calmAt_dec (rs : List Rec) (s : St) (k t : Int) (us : List Upd) (hk : k ≠ 1) : CalmAt rs s ⟨k, t, us⟩ := fun h => absurd h hk

/-- what a lookup of a transaction's record reads, wherever the history is as it was -/
theorem histMapN {w : World} {base hb n : Nat} {done : List RecC} {s : St} (h : HistC w base hb n done s) (hsl : s.refs.length = 4) {t : Int} (ht : txB t = true) :
    ∃ (mb : Nat) (y : Int) (B : Option Addr) (m d : Nat), w.cell? ⟨hb, 5, none⟩ = some (.map (some mb)) ∧ ∀ k, (Instr.lookup 61 (.map (some mb)) (.int .i64 t) false).run Try.prog (w.drewN k) = .ok (.agg #[.int .i64 (askK (abs done) t), .int .i64 y, .slice B m d]) (w.drewN k) := by
  obtain ⟨lb, mb, hT, hL, hM, -⟩ := h
  have hg : ∀ k, _ := fun k => histGet (hM.drewN k) ht
  have hc := (hist_cells hT hsl).2.2.1
  have hk : askK (abs done) t = kindO ((lastC done t).map RecC.ab) := by rw [lastC_abs]; rfl
  rcases hq : lastC done t with _ | q
  · rw [hq] at hg hk
    refine ⟨mb, 0, none, 0, 0, hc, fun k => ?_⟩
    rw [hk]; exact hg k
  · rw [hq] at hg hk
    refine ⟨mb, q.txn, q.A, q.n, q.c, hc, fun k => ?_⟩
    rw [hk]; exact hg k

set_option maxRecDepth 100000 in
set_option maxHeartbeats 3200000 in
theorem implDecide_any (commit : Bool) (A : Option Addr) (n c : Nat) (rs : List RecC) (t : Int) (w : World) (lo : Nat) (hn : n ≤ 999) (hnc : n ≤ c) (hc : c ≤ 9223372036854775807) (hs : ∀ r ∈ rs, r.n ≤ 1000) (hlo : lo ≤ w.heap.size) (h : Recs w lo A n rs) (hcalm : Calm (abs rs)) :
    Calls Try.prog 28 #[.agg #[.slice A n c], .int .i64 t, .bool commit] w fun e w' => ShRetB (decL (abs rs) t commit) (decB (abs rs) t commit) w.heap.size w e w' := by
  have HR := Lib.hid h
  have HSH := Lib.hid hs
  have HC := Lib.hid hcalm
  have hX : ((w.alloc (.cells #[.slice A n c] 25)).alloc (.cells #[.slice none 0 0] 25)).heap[w.heap.size]? = some (.cells #[.slice A n c] 25 (0, 0)) := (Below.heap_alloc _ _ _ (by simp)).trans (heap_alloc_new w _)
  have hRR : ((w.alloc (.cells #[.slice A n c] 25)).alloc (.cells #[.slice none 0 0] 25)).heap[w.heap.size + 1]? = some (.cells #[.slice none 0 0] 25 (0, 0)) := by
    simpa using heap_alloc_new (w.alloc (.cells #[.slice A n c] 25)) (.cells #[.slice none 0 0] 25)
  have hb0 : Below w.heap.size w ((w.alloc (.cells #[.slice A n c] 25)).alloc (.cells #[.slice none 0 0] 25)) := ((Below.refl _ _).alloc (Nat.le_refl _) _).alloc (by simp) _
  have HX := Lib.hid hX
  have HRR := Lib.hid hRR
  have HB0 := Lib.hid hb0
  have hz : ((w.alloc (.cells #[.slice A n c] 25)).alloc (.cells #[.slice none 0 0] 25)).heap.size = w.heap.size + 1 + 1 := by simp
  clear h hs hX hRR hb0 hcalm
  go_enter Try.func28, Try.ntmps28
  go_wp2_with fail
  refine (read_any A n c rs _ lo hnc hc ((HR.out.alloc _).alloc _) HC.out).mono ?_
  rintro e w1 ⟨hb, hb1, hh, rfl⟩
  rw [hz] at hb1 hh
  have hx1 : w1.heap[w.heap.size]? = some (.cells #[.slice A n c] 25 (0, 0)) := (hb1.block _ (by omega)).trans HX.out
  have hr1 : w1.heap[w.heap.size + 1]? = some (.cells #[.slice none 0 0] 25 (0, 0)) := (hb1.block _ (by omega)).trans HRR.out
  have HX1 := Lib.hid hx1
  have HR1 := Lib.hid hr1
  have HB1 : Hid (Below w.heap.size w w1) := HB0.out.trans (hb1.mono (by omega))
  have z0 : w1.cell? ⟨w.heap.size, 0, none⟩ = some (.slice A n c) := cell_zero hx1
  have z1 : w1.cell? ⟨w.heap.size + 1, 0, none⟩ = some (.slice none 0 0) := cell_zero hr1
  have z2 : w1.frozen? ⟨w.heap.size + 1, 0, none⟩ = false := frozen_of_row _ _ _ _ _ hr1
  have hszz : w.heap.size + 1 < w1.heap.size := heap_lt hr1
  have hszy : w.heap.size < w1.heap.size := by omega
  have HH := Lib.hid hh
  clear hb1 hx1 hr1 hh HX HRR HB0 hz
  rcases hv : shardB (abs rs) with _ | _
  · have E := dec_no (t := t) commit (.inl hv)
    have E1 := Lib.hid E.1
    have E2 := Lib.hid E.2
    clear E
    go_wp2_with fail
    refine bodyPost_ret (v := .tuple #[.agg #[.slice none 0 0], .bool false]) (by simp [results, Try.results28, go_sem, z1]) rfl ⟨.slice none 0 0, 0, [], ?_, RecOwn.nil (World.ownsRow_nil _ _ _ _), HB1.out.setCell (by simp) _, ret_tupb E2.out.symm⟩
    rw [E1.out]; rfl
  · rcases ht : txB t with _ | _
    · have E := dec_no (rs := abs rs) commit (.inr ht)
      have E1 := Lib.hid E.1
      have E2 := Lib.hid E.2
      clear E
      go_wp2_with (go_at_call 38; refine (isTxn_any _ _).mono ?_; rintro e w' ⟨rfl, rfl⟩)
      refine bodyPost_ret (v := .tuple #[.agg #[.slice none 0 0], .bool false]) (by simp [results, Try.results28, go_sem, z1]) rfl ⟨.slice none 0 0, 0, [], ?_, RecOwn.nil (World.ownsRow_nil _ _ _ _), HB1.out.setCell (by simp) _, ret_tupb E2.out.symm⟩
      rw [E1.out]; rfl
    · have HV := Lib.hid hv
      have HT := Lib.hid ht
      have hrec : (recov (abs rs)).2 = true := by unfold shardB at hv; exact (Bool.and_eq_true _ _ |>.mp hv).1
      have hist := hist_of hrec
      have hI := hist.inv
      have HI := Lib.hid hI
      have hhc := HH.out hrec
      obtain ⟨hhb0, hhb1⟩ := hhc.lt
      have hhne : ¬ (w1.heap.size = hb) := by omega
      have hhne' : ¬ (hb = w1.heap.size) := by omega
      have HHC := Lib.hid hhc
      have HIST := Lib.hid hist
      have hll := Lib.hid HR.out.1.1
      clear hrec hI hist hhc HH
      rcases commit with _ | _
      · have hbox := heap_alloc_new w1 (.cells #[.int .i64 3, .int .i64 t, .slice none 0 0] 48)
        have HBX := Lib.hid hbox
        have HHC2 : Hid (HistC (w1.alloc (.cells #[.int .i64 3, .int .i64 t, .slice none 0 0] 48)) (w.heap.size + 1 + 1 + 1) hb rs.length rs (recov (abs rs)).1) := HHC.out.alloc _
        obtain ⟨mb, y, B, m, d, k5, hlk⟩ := histMapN HHC2.out ((refsB_iff _).1 HI.out.refs).1 HT.out
        have hfk := field_kind (askK (abs rs) t) y B m d
        clear hbox
        go_wp2_with (go_at_call 38; refine (isTxn_any _ _).mono ?_; rintro e w' ⟨rfl, rfl⟩)
        go_quiet (fail)
        have hzW : ((w1.alloc (.cells #[.int .i64 3, .int .i64 t, .slice none 0 0] 48)).drewN nq).heap.size = w1.heap.size + 1 := by simp
        have HRW : Hid (Recs ((w1.alloc (.cells #[.int .i64 3, .int .i64 t, .slice none 0 0] 48)).drewN nq) lo A n rs) := Lib.hid (((HR.out.bel HB1.out).alloc _).drewN nq)
        have HRRW : Hid (((w1.alloc (.cells #[.int .i64 3, .int .i64 t, .slice none 0 0] 48)).drewN nq).heap[w.heap.size + 1]? = some (.cells #[.slice none 0 0] 25 (0, 0))) := (Below.heap_alloc _ _ _ hszz).trans HR1.out
        have HXXW : Hid (((w1.alloc (.cells #[.int .i64 3, .int .i64 t, .slice none 0 0] 48)).drewN nq).heap[w.heap.size]? = some (.cells #[.slice A n c] 25 (0, 0))) := (Below.heap_alloc _ _ _ hszy).trans HX1.out
        have HBW : Hid (Below w.heap.size w ((w1.alloc (.cells #[.int .i64 3, .int .i64 t, .slice none 0 0] 48)).drewN nq)) := below_drewN (HB1.out.alloc (by omega) _) nq
        rcases Decidable.em (askK (abs rs) t = 3) with hk | hk
        · have E := dec_known (commit := false) HV.out HT.out hk
          have E1 := Lib.hid E.1
          have E2 := Lib.hid E.2
          have hkb : (askK (abs rs) t == 3) = true := by simpa using hk
          clear E hk
          go_wp2_with fail
          refine (copyShard_any A n c rs _ lo (by omega) HSH.out HRW.out).mono ?_
          rintro e w8 ⟨v8, n8, rs8, hab8, hro8, hb8, rfl⟩
          have hr8 : w8.heap[w.heap.size + 1]? = some (.cells #[.slice none 0 0] 25 (0, 0)) := (hb8.block _ (by simp; omega)).trans HRRW.out
          have y1 : w8.cell? ⟨w.heap.size + 1, 0, none⟩ = some (.slice none 0 0) := cell_zero hr8
          have y2 : w8.frozen? ⟨w.heap.size + 1, 0, none⟩ = false := frozen_of_row _ _ _ _ _ hr8
          obtain ⟨A8, c8, rfl, -, -, -⟩ := hro8.recs
          have HRO8 := Lib.hid ((hro8.low (base' := w.heap.size) (by simp; omega)).put hr8 (by decide) (shard_no (by simp)) 0 (.slice A8 n8 c8))
          have HAB8 := Lib.hid hab8
          have HB8 : Hid (Below w.heap.size w w8) := HBW.out.trans (hb8.mono (by simp; omega))
          have hl8 : w.heap.size + 1 < w8.heap.size := heap_lt hr8
          clear hro8 hab8 hb8 hr8
          go_wp2_with fail
          refine bodyPost_ret (v := .tuple #[.agg #[.slice A8 n8 c8], .bool true]) (by simp [results, Try.results28, go_sem, y1]) rfl ⟨_, n8, rs8, ?_, HRO8.out, HB8.out.setCell (by simp) _, ret_tupb E2.out.symm⟩
          rw [E1.out]; exact HAB8.out
        · have E := dec_new (commit := false) HV.out HT.out hk
          have hkb : (askK (abs rs) t == 3) = false := by simpa using hk
          have hsn := shardB_snoc (r := ⟨kindOf false, t, []⟩) HV.out
          rw [abs_len, hll.out] at hsn
          by_cases h30 : n = 30
          · subst h30
            have hno : shardB (abs rs ++ [⟨kindOf false, t, []⟩]) = false := by rw [hsn]; simp
            have E1 := Lib.hid (E.1.trans (addL_no hno))
            have E2 := Lib.hid (E.2.trans hno)
            clear E hk hsn hno
            go_wp2_with fail
            refine (copyShard_any A 30 c rs _ lo (by omega) HSH.out HRW.out).mono ?_
            rintro e w8 ⟨v8, n8, rs8, hab8, hro8, hb8, rfl⟩
            have hr8 : w8.heap[w.heap.size + 1]? = some (.cells #[.slice none 0 0] 25 (0, 0)) := (hb8.block _ (by simp; omega)).trans HRRW.out
            have y1 : w8.cell? ⟨w.heap.size + 1, 0, none⟩ = some (.slice none 0 0) := cell_zero hr8
            have y2 : w8.frozen? ⟨w.heap.size + 1, 0, none⟩ = false := frozen_of_row _ _ _ _ _ hr8
            obtain ⟨A8, c8, rfl, -, -, -⟩ := hro8.recs
            have HRO8 := Lib.hid ((hro8.low (base' := w.heap.size) (by simp; omega)).put hr8 (by decide) (shard_no (by simp)) 0 (.slice A8 n8 c8))
            have HAB8 := Lib.hid hab8
            have HB8 : Hid (Below w.heap.size w w8) := HBW.out.trans (hb8.mono (by simp; omega))
            have hl8 : w.heap.size + 1 < w8.heap.size := heap_lt hr8
            clear hro8 hab8 hb8 hr8
            go_wp2_with fail
            refine bodyPost_ret (v := .tuple #[.agg #[.slice A8 n8 c8], .bool false]) (by simp [results, Try.results28, go_sem, y1]) rfl ⟨_, n8, rs8, ?_, HRO8.out, HB8.out.setCell (by simp) _, ret_tupb E2.out.symm⟩
            rw [E1.out]; exact HAB8.out
          · have hnb : ((n : Int) == 30) = false := by rw [beq_eq_false_iff_ne]; omega
            have HSN : Hid (shardB (abs rs ++ [⟨kindOf false, t, []⟩]) = stepB (abs rs) (recov (abs rs)).1 ⟨3, t, []⟩) := by
              show _ = _
              rw [hsn, decide_eq_false h30]; simp [kindOf]
            have EE1 := Lib.hid E.1
            have EE2 := Lib.hid E.2
            have HHCW : Hid (HistC ((w1.alloc (.cells #[.int .i64 3, .int .i64 t, .slice none 0 0] 48)).drewN nq) (w.heap.size + 1 + 1 + 1) hb rs.length rs (recov (abs rs)).1) := HHC2.out.bel ⟨rfl, rfl, rfl, Nat.le_refl _, fun _ _ => rfl⟩
            have HRD : Hid (∀ q ∈ rs, RecB ((w1.alloc (.cells #[.int .i64 3, .int .i64 t, .slice none 0 0] 48)).drewN nq) lo w.heap.size q) := fun q hq => (recb_of (HR.out.2 q hq)).below HBW.out (Nat.le_refl _)
            have hlm : rs.length < maxLen := by unfold maxLen; rw [hll.out]; omega
            clear E hk hsn
            go_wp2_with fail
            refine (add_any (w.heap.size + 1 + 1 + 1) hb rs.length rs (recov (abs rs)).1 ⟨3, t, none, 0, 0, []⟩ _ lo w.heap.size (by omega) hlm HHCW.out HI.out ⟨Fl.nil _ _ _ _ _, Nat.zero_le _⟩ HRD.out (calmAt_dec _ _ _ _ _ (by simp))).mono ?_
            rintro e w3 (⟨hok, -, hb3, hkr, rfl⟩ | ⟨hno, hb3, rfl⟩)
            · have hyes : shardB (abs rs ++ [⟨kindOf false, t, []⟩]) = true := HSN.out.trans hok
              have E1 := Lib.hid (EE1.out.trans (addL_yes hyes))
              have E2 := Lib.hid (EE2.out.trans hyes)
              have hx3 : w3.heap[w.heap.size]? = some (.cells #[.slice A n c] 25 (0, 0)) := (hb3.block _ (by omega)).trans HXXW.out
              have hr3 : w3.heap[w.heap.size + 1]? = some (.cells #[.slice none 0 0] 25 (0, 0)) := (hb3.block _ (by omega)).trans HRRW.out
              have hbx3 : w3.heap[w1.heap.size]? = some (.cells #[.int .i64 3, .int .i64 t, .slice none 0 0] 48 (0, 0)) := hkr _ _ _ (by decide) (by decide) (by decide) HBX.out
              have HR3 := Lib.hid hr3
              have p0 : w3.cell? ⟨w.heap.size, 0, none⟩ = some (.slice A n c) := cell_zero hx3
              have b0 : w3.cell? ⟨w1.heap.size, 0, none⟩ = some (.int .i64 3) := cell_of_row w3 w1.heap.size 0 _ _ _ hbx3
              have b1 : w3.cell? ⟨w1.heap.size, 1, none⟩ = some (.int .i64 t) := cell_of_row w3 w1.heap.size 1 _ _ _ hbx3
              have b2 : w3.cell? ⟨w1.heap.size, 2, none⟩ = some (.slice none 0 0) := cell_of_row w3 w1.heap.size 2 _ _ _ hbx3
              have HB3 : Hid (Below w.heap.size w w3) := HBW.out.trans (hb3.mono (by omega))
              have HRW3 : Hid (Recs w3 lo A n rs) := HR.out.bel HB3.out
              have hlt3 : w.heap.size + 1 < w3.heap.size := heap_lt hr3
              clear hok hb3 hkr hyes hx3 hr3 hbx3 HHCW HRD
              go_wp2_with fail
              refine (with_any A n c rs ⟨3, t, none, 0, 0, []⟩ _ lo w.heap.size (by omega) HSH.out (by simp) HRW3.out (recNil _ _ _ _)).mono ?_
              rintro e w8 ⟨v8, n8, rs8, hab8, hro8, hb8, rfl⟩
              have hr8 : w8.heap[w.heap.size + 1]? = some (.cells #[.slice none 0 0] 25 (0, 0)) := (hb8.block _ hlt3).trans HR3.out
              have y1 : w8.cell? ⟨w.heap.size + 1, 0, none⟩ = some (.slice none 0 0) := cell_zero hr8
              have y2 : w8.frozen? ⟨w.heap.size + 1, 0, none⟩ = false := frozen_of_row _ _ _ _ _ hr8
              obtain ⟨A8, c8, rfl, -, -, -⟩ := hro8.recs
              have HRO8 := Lib.hid ((hro8.low (base' := w.heap.size) HB3.out.size).put hr8 (by decide) (shard_no (by simp)) 0 (.slice A8 n8 c8))
              have HAB8 := Lib.hid hab8
              have HB8 : Hid (Below w.heap.size w w8) := HB3.out.trans (hb8.mono HB3.out.size)
              have hl8 : w.heap.size + 1 < w8.heap.size := heap_lt hr8
              clear hro8 hab8 hb8 hr8
              go_wp2_with fail
              refine bodyPost_ret (v := .tuple #[.agg #[.slice A8 n8 c8], .bool true]) (by simp [results, Try.results28, go_sem, y1]) rfl ⟨_, n8, rs8, ?_, HRO8.out, HB8.out.setCell (by simp) _, ret_tupb E2.out.symm⟩
              rw [E1.out]; exact HAB8.out
            · have hyes : shardB (abs rs ++ [⟨kindOf false, t, []⟩]) = false := HSN.out.trans hno
              have E1 := Lib.hid (EE1.out.trans (addL_no hyes))
              have E2 := Lib.hid (EE2.out.trans hyes)
              have hx3 : w3.heap[w.heap.size]? = some (.cells #[.slice A n c] 25 (0, 0)) := (hb3.block _ (by omega)).trans HXXW.out
              have hr3 : w3.heap[w.heap.size + 1]? = some (.cells #[.slice none 0 0] 25 (0, 0)) := (hb3.block _ (by omega)).trans HRRW.out
              have HR3 := Lib.hid hr3
              have p0 : w3.cell? ⟨w.heap.size, 0, none⟩ = some (.slice A n c) := cell_zero hx3
              have HB3 : Hid (Below w.heap.size w w3) := HBW.out.trans (hb3.mono (by omega))
              have HRW3 : Hid (Recs w3 lo A n rs) := HR.out.bel HB3.out
              have hlt3 : w.heap.size + 1 < w3.heap.size := heap_lt hr3
              clear hno hb3 hyes hx3 hr3 HHCW HRD
              go_wp2_with fail
              refine (copyShard_any A n c rs _ lo (by omega) HSH.out HRW3.out).mono ?_
              rintro e w8 ⟨v8, n8, rs8, hab8, hro8, hb8, rfl⟩
              have hr8 : w8.heap[w.heap.size + 1]? = some (.cells #[.slice none 0 0] 25 (0, 0)) := (hb8.block _ hlt3).trans HR3.out
              have y1 : w8.cell? ⟨w.heap.size + 1, 0, none⟩ = some (.slice none 0 0) := cell_zero hr8
              have y2 : w8.frozen? ⟨w.heap.size + 1, 0, none⟩ = false := frozen_of_row _ _ _ _ _ hr8
              obtain ⟨A8, c8, rfl, -, -, -⟩ := hro8.recs
              have HRO8 := Lib.hid ((hro8.low (base' := w.heap.size) HB3.out.size).put hr8 (by decide) (shard_no (by simp)) 0 (.slice A8 n8 c8))
              have HAB8 := Lib.hid hab8
              have HB8 : Hid (Below w.heap.size w w8) := HB3.out.trans (hb8.mono HB3.out.size)
              have hl8 : w.heap.size + 1 < w8.heap.size := heap_lt hr8
              clear hro8 hab8 hb8 hr8
              go_wp2_with fail
              refine bodyPost_ret (v := .tuple #[.agg #[.slice A8 n8 c8], .bool false]) (by simp [results, Try.results28, go_sem, y1]) rfl ⟨_, n8, rs8, ?_, HRO8.out, HB8.out.setCell (by simp) _, ret_tupb E2.out.symm⟩
              rw [E1.out]; exact HAB8.out
      · have hbox := heap_alloc_new w1 (.cells #[.int .i64 2, .int .i64 t, .slice none 0 0] 48)
        have HBX := Lib.hid hbox
        have HHC2 : Hid (HistC (w1.alloc (.cells #[.int .i64 2, .int .i64 t, .slice none 0 0] 48)) (w.heap.size + 1 + 1 + 1) hb rs.length rs (recov (abs rs)).1) := HHC.out.alloc _
        obtain ⟨mb, y, B, m, d, k5, hlk⟩ := histMapN HHC2.out ((refsB_iff _).1 HI.out.refs).1 HT.out
        have hfk := field_kind (askK (abs rs) t) y B m d
        clear hbox
        go_wp2_with (go_at_call 38; refine (isTxn_any _ _).mono ?_; rintro e w' ⟨rfl, rfl⟩)
        go_quiet (fail)
        have hzW : ((w1.alloc (.cells #[.int .i64 2, .int .i64 t, .slice none 0 0] 48)).drewN nq).heap.size = w1.heap.size + 1 := by simp
        have HRW : Hid (Recs ((w1.alloc (.cells #[.int .i64 2, .int .i64 t, .slice none 0 0] 48)).drewN nq) lo A n rs) := Lib.hid (((HR.out.bel HB1.out).alloc _).drewN nq)
        have HRRW : Hid (((w1.alloc (.cells #[.int .i64 2, .int .i64 t, .slice none 0 0] 48)).drewN nq).heap[w.heap.size + 1]? = some (.cells #[.slice none 0 0] 25 (0, 0))) := (Below.heap_alloc _ _ _ hszz).trans HR1.out
        have HXXW : Hid (((w1.alloc (.cells #[.int .i64 2, .int .i64 t, .slice none 0 0] 48)).drewN nq).heap[w.heap.size]? = some (.cells #[.slice A n c] 25 (0, 0))) := (Below.heap_alloc _ _ _ hszy).trans HX1.out
        have HBW : Hid (Below w.heap.size w ((w1.alloc (.cells #[.int .i64 2, .int .i64 t, .slice none 0 0] 48)).drewN nq)) := below_drewN (HB1.out.alloc (by omega) _) nq
        rcases Decidable.em (askK (abs rs) t = 2) with hk | hk
        · have E := dec_known (commit := true) HV.out HT.out hk
          have E1 := Lib.hid E.1
          have E2 := Lib.hid E.2
          have hkb : (askK (abs rs) t == 2) = true := by simpa using hk
          clear E hk
          go_wp2_with fail
          refine (copyShard_any A n c rs _ lo (by omega) HSH.out HRW.out).mono ?_
          rintro e w8 ⟨v8, n8, rs8, hab8, hro8, hb8, rfl⟩
          have hr8 : w8.heap[w.heap.size + 1]? = some (.cells #[.slice none 0 0] 25 (0, 0)) := (hb8.block _ (by simp; omega)).trans HRRW.out
          have y1 : w8.cell? ⟨w.heap.size + 1, 0, none⟩ = some (.slice none 0 0) := cell_zero hr8
          have y2 : w8.frozen? ⟨w.heap.size + 1, 0, none⟩ = false := frozen_of_row _ _ _ _ _ hr8
          obtain ⟨A8, c8, rfl, -, -, -⟩ := hro8.recs
          have HRO8 := Lib.hid ((hro8.low (base' := w.heap.size) (by simp; omega)).put hr8 (by decide) (shard_no (by simp)) 0 (.slice A8 n8 c8))
          have HAB8 := Lib.hid hab8
          have HB8 : Hid (Below w.heap.size w w8) := HBW.out.trans (hb8.mono (by simp; omega))
          have hl8 : w.heap.size + 1 < w8.heap.size := heap_lt hr8
          clear hro8 hab8 hb8 hr8
          go_wp2_with fail
          refine bodyPost_ret (v := .tuple #[.agg #[.slice A8 n8 c8], .bool true]) (by simp [results, Try.results28, go_sem, y1]) rfl ⟨_, n8, rs8, ?_, HRO8.out, HB8.out.setCell (by simp) _, ret_tupb E2.out.symm⟩
          rw [E1.out]; exact HAB8.out
        · have E := dec_new (commit := true) HV.out HT.out hk
          have hkb : (askK (abs rs) t == 2) = false := by simpa using hk
          have hsn := shardB_snoc (r := ⟨kindOf true, t, []⟩) HV.out
          rw [abs_len, hll.out] at hsn
          by_cases h30 : n = 30
          · subst h30
            have hno : shardB (abs rs ++ [⟨kindOf true, t, []⟩]) = false := by rw [hsn]; simp
            have E1 := Lib.hid (E.1.trans (addL_no hno))
            have E2 := Lib.hid (E.2.trans hno)
            clear E hk hsn hno
            go_wp2_with fail
            refine (copyShard_any A 30 c rs _ lo (by omega) HSH.out HRW.out).mono ?_
            rintro e w8 ⟨v8, n8, rs8, hab8, hro8, hb8, rfl⟩
            have hr8 : w8.heap[w.heap.size + 1]? = some (.cells #[.slice none 0 0] 25 (0, 0)) := (hb8.block _ (by simp; omega)).trans HRRW.out
            have y1 : w8.cell? ⟨w.heap.size + 1, 0, none⟩ = some (.slice none 0 0) := cell_zero hr8
            have y2 : w8.frozen? ⟨w.heap.size + 1, 0, none⟩ = false := frozen_of_row _ _ _ _ _ hr8
            obtain ⟨A8, c8, rfl, -, -, -⟩ := hro8.recs
            have HRO8 := Lib.hid ((hro8.low (base' := w.heap.size) (by simp; omega)).put hr8 (by decide) (shard_no (by simp)) 0 (.slice A8 n8 c8))
            have HAB8 := Lib.hid hab8
            have HB8 : Hid (Below w.heap.size w w8) := HBW.out.trans (hb8.mono (by simp; omega))
            have hl8 : w.heap.size + 1 < w8.heap.size := heap_lt hr8
            clear hro8 hab8 hb8 hr8
            go_wp2_with fail
            refine bodyPost_ret (v := .tuple #[.agg #[.slice A8 n8 c8], .bool false]) (by simp [results, Try.results28, go_sem, y1]) rfl ⟨_, n8, rs8, ?_, HRO8.out, HB8.out.setCell (by simp) _, ret_tupb E2.out.symm⟩
            rw [E1.out]; exact HAB8.out
          · have hnb : ((n : Int) == 30) = false := by rw [beq_eq_false_iff_ne]; omega
            have HSN : Hid (shardB (abs rs ++ [⟨kindOf true, t, []⟩]) = stepB (abs rs) (recov (abs rs)).1 ⟨2, t, []⟩) := by
              show _ = _
              rw [hsn, decide_eq_false h30]; simp [kindOf]
            have EE1 := Lib.hid E.1
            have EE2 := Lib.hid E.2
            have HHCW : Hid (HistC ((w1.alloc (.cells #[.int .i64 2, .int .i64 t, .slice none 0 0] 48)).drewN nq) (w.heap.size + 1 + 1 + 1) hb rs.length rs (recov (abs rs)).1) := HHC2.out.bel ⟨rfl, rfl, rfl, Nat.le_refl _, fun _ _ => rfl⟩
            have HRD : Hid (∀ q ∈ rs, RecB ((w1.alloc (.cells #[.int .i64 2, .int .i64 t, .slice none 0 0] 48)).drewN nq) lo w.heap.size q) := fun q hq => (recb_of (HR.out.2 q hq)).below HBW.out (Nat.le_refl _)
            have hlm : rs.length < maxLen := by unfold maxLen; rw [hll.out]; omega
            clear E hk hsn
            go_wp2_with fail
            refine (add_any (w.heap.size + 1 + 1 + 1) hb rs.length rs (recov (abs rs)).1 ⟨2, t, none, 0, 0, []⟩ _ lo w.heap.size (by omega) hlm HHCW.out HI.out ⟨Fl.nil _ _ _ _ _, Nat.zero_le _⟩ HRD.out (calmAt_dec _ _ _ _ _ (by simp))).mono ?_
            rintro e w3 (⟨hok, -, hb3, hkr, rfl⟩ | ⟨hno, hb3, rfl⟩)
            · have hyes : shardB (abs rs ++ [⟨kindOf true, t, []⟩]) = true := HSN.out.trans hok
              have E1 := Lib.hid (EE1.out.trans (addL_yes hyes))
              have E2 := Lib.hid (EE2.out.trans hyes)
              have hx3 : w3.heap[w.heap.size]? = some (.cells #[.slice A n c] 25 (0, 0)) := (hb3.block _ (by omega)).trans HXXW.out
              have hr3 : w3.heap[w.heap.size + 1]? = some (.cells #[.slice none 0 0] 25 (0, 0)) := (hb3.block _ (by omega)).trans HRRW.out
              have hbx3 : w3.heap[w1.heap.size]? = some (.cells #[.int .i64 2, .int .i64 t, .slice none 0 0] 48 (0, 0)) := hkr _ _ _ (by decide) (by decide) (by decide) HBX.out
              have HR3 := Lib.hid hr3
              have p0 : w3.cell? ⟨w.heap.size, 0, none⟩ = some (.slice A n c) := cell_zero hx3
              have b0 : w3.cell? ⟨w1.heap.size, 0, none⟩ = some (.int .i64 2) := cell_of_row w3 w1.heap.size 0 _ _ _ hbx3
              have b1 : w3.cell? ⟨w1.heap.size, 1, none⟩ = some (.int .i64 t) := cell_of_row w3 w1.heap.size 1 _ _ _ hbx3
              have b2 : w3.cell? ⟨w1.heap.size, 2, none⟩ = some (.slice none 0 0) := cell_of_row w3 w1.heap.size 2 _ _ _ hbx3
              have HB3 : Hid (Below w.heap.size w w3) := HBW.out.trans (hb3.mono (by omega))
              have HRW3 : Hid (Recs w3 lo A n rs) := HR.out.bel HB3.out
              have hlt3 : w.heap.size + 1 < w3.heap.size := heap_lt hr3
              clear hok hb3 hkr hyes hx3 hr3 hbx3 HHCW HRD
              go_wp2_with fail
              refine (with_any A n c rs ⟨2, t, none, 0, 0, []⟩ _ lo w.heap.size (by omega) HSH.out (by simp) HRW3.out (recNil _ _ _ _)).mono ?_
              rintro e w8 ⟨v8, n8, rs8, hab8, hro8, hb8, rfl⟩
              have hr8 : w8.heap[w.heap.size + 1]? = some (.cells #[.slice none 0 0] 25 (0, 0)) := (hb8.block _ hlt3).trans HR3.out
              have y1 : w8.cell? ⟨w.heap.size + 1, 0, none⟩ = some (.slice none 0 0) := cell_zero hr8
              have y2 : w8.frozen? ⟨w.heap.size + 1, 0, none⟩ = false := frozen_of_row _ _ _ _ _ hr8
              obtain ⟨A8, c8, rfl, -, -, -⟩ := hro8.recs
              have HRO8 := Lib.hid ((hro8.low (base' := w.heap.size) HB3.out.size).put hr8 (by decide) (shard_no (by simp)) 0 (.slice A8 n8 c8))
              have HAB8 := Lib.hid hab8
              have HB8 : Hid (Below w.heap.size w w8) := HB3.out.trans (hb8.mono HB3.out.size)
              have hl8 : w.heap.size + 1 < w8.heap.size := heap_lt hr8
              clear hro8 hab8 hb8 hr8
              go_wp2_with fail
              refine bodyPost_ret (v := .tuple #[.agg #[.slice A8 n8 c8], .bool true]) (by simp [results, Try.results28, go_sem, y1]) rfl ⟨_, n8, rs8, ?_, HRO8.out, HB8.out.setCell (by simp) _, ret_tupb E2.out.symm⟩
              rw [E1.out]; exact HAB8.out
            · have hyes : shardB (abs rs ++ [⟨kindOf true, t, []⟩]) = false := HSN.out.trans hno
              have E1 := Lib.hid (EE1.out.trans (addL_no hyes))
              have E2 := Lib.hid (EE2.out.trans hyes)
              have hx3 : w3.heap[w.heap.size]? = some (.cells #[.slice A n c] 25 (0, 0)) := (hb3.block _ (by omega)).trans HXXW.out
              have hr3 : w3.heap[w.heap.size + 1]? = some (.cells #[.slice none 0 0] 25 (0, 0)) := (hb3.block _ (by omega)).trans HRRW.out
              have HR3 := Lib.hid hr3
              have p0 : w3.cell? ⟨w.heap.size, 0, none⟩ = some (.slice A n c) := cell_zero hx3
              have HB3 : Hid (Below w.heap.size w w3) := HBW.out.trans (hb3.mono (by omega))
              have HRW3 : Hid (Recs w3 lo A n rs) := HR.out.bel HB3.out
              have hlt3 : w.heap.size + 1 < w3.heap.size := heap_lt hr3
              clear hno hb3 hyes hx3 hr3 HHCW HRD
              go_wp2_with fail
              refine (copyShard_any A n c rs _ lo (by omega) HSH.out HRW3.out).mono ?_
              rintro e w8 ⟨v8, n8, rs8, hab8, hro8, hb8, rfl⟩
              have hr8 : w8.heap[w.heap.size + 1]? = some (.cells #[.slice none 0 0] 25 (0, 0)) := (hb8.block _ hlt3).trans HR3.out
              have y1 : w8.cell? ⟨w.heap.size + 1, 0, none⟩ = some (.slice none 0 0) := cell_zero hr8
              have y2 : w8.frozen? ⟨w.heap.size + 1, 0, none⟩ = false := frozen_of_row _ _ _ _ _ hr8
              obtain ⟨A8, c8, rfl, -, -, -⟩ := hro8.recs
              have HRO8 := Lib.hid ((hro8.low (base' := w.heap.size) HB3.out.size).put hr8 (by decide) (shard_no (by simp)) 0 (.slice A8 n8 c8))
              have HAB8 := Lib.hid hab8
              have HB8 : Hid (Below w.heap.size w w8) := HB3.out.trans (hb8.mono HB3.out.size)
              have hl8 : w.heap.size + 1 < w8.heap.size := heap_lt hr8
              clear hro8 hab8 hb8 hr8
              go_wp2_with fail
              refine bodyPost_ret (v := .tuple #[.agg #[.slice A8 n8 c8], .bool false]) (by simp [results, Try.results28, go_sem, y1]) rfl ⟨_, n8, rs8, ?_, HRO8.out, HB8.out.setCell (by simp) _, ret_tupb E2.out.symm⟩
              rw [E1.out]; exact HAB8.out

end Go.Proofs.Ytgnhanbdfohjaaa
