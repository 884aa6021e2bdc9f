/-
  The walk of l21Add of the reference: a record is appended, if it may follow. Condition: lengths in reach.
-/
import Derived.Test.YtgnhanbdfohjaaaSpecI
import Derived.Test.YtgnhanbdfohjaaaSpecH
namespace Go.Proofs.Ytgnhanbdfohjaaa
set_option linter.unusedVariables false
set_option linter.unusedSimpArgs false
open Go.RowKit
attribute [local go_sem ↓] Go.wp_at_zero Go.wp_at_succ

/-- what l21Add leaves -/
def addL (rs : List Rec) (r : Rec) : List Rec := if shardB (rs ++ [r]) = true then rs ++ [r] else rs
theorem addL_yes {rs : List Rec} {r : Rec} (h : shardB (rs ++ [r]) = true) : addL rs r = rs ++ [r] := by unfold addL; rw [if_pos h]
theorem addL_no {rs : List Rec} {r : Rec} (h : shardB (rs ++ [r]) = false) : addL rs r = rs := by unfold addL; rw [h]; rfl
theorem abs_app (rs : List RecC) (r : RecC) : abs (rs ++ [r]) = abs rs ++ [r.ab] := by unfold abs; rw [List.map_append]; rfl

set_option linter.unusedVariables false in
set_option maxRecDepth 100000 in
set_option maxHeartbeats 3200000 in
theorem l21Add_any (A : Option Addr) (n c : Nat) (rs : List RecC) (r : RecC) (w : World) (lo lo' : Nat) (hn : n ≤ 999) (hs : ∀ r ∈ rs, r.n ≤ 1000) (hrn : r.n ≤ 1000) (h : Recs w lo A n rs) (hr : RecIn w lo' r) :
    Calls Try.prog 48 #[.agg #[.slice A n c], .agg #[.int .i64 r.kind, .int .i64 r.txn, .slice r.A r.n r.c]] w fun e w' => ShRetB (addL (abs rs) r.ab) (shardB (abs rs ++ [r.ab])) w.heap.size w e w' := by
  have HR := Lib.hid h
  have HSH := Lib.hid hs
  have HI := Lib.hid hr
  have hrc := hr.2.1
  have hrm := hr.2.2
  have hX : (((w.alloc (.cells #[.slice A n c] 25)).alloc (.cells #[.int .i64 r.kind, .int .i64 r.txn, .slice r.A r.n r.c] 48)).alloc (.cells #[.slice none 0 0] 25)).heap[w.heap.size]? = some (.cells #[.slice A n c] 25 (0, 0)) := (Below.heap_alloc _ _ _ (by simp; omega)).trans ((Below.heap_alloc _ _ _ (by simp)).trans (heap_alloc_new w _))
  have hBX : (((w.alloc (.cells #[.slice A n c] 25)).alloc (.cells #[.int .i64 r.kind, .int .i64 r.txn, .slice r.A r.n r.c] 48)).alloc (.cells #[.slice none 0 0] 25)).heap[w.heap.size + 1]? = some (.cells #[.int .i64 r.kind, .int .i64 r.txn, .slice r.A r.n r.c] 48 (0, 0)) := (Below.heap_alloc _ _ _ (by simp)).trans (by simpa using heap_alloc_new (w.alloc (.cells #[.slice A n c] 25)) (.cells #[.int .i64 r.kind, .int .i64 r.txn, .slice r.A r.n r.c] 48))
  have hRR : (((w.alloc (.cells #[.slice A n c] 25)).alloc (.cells #[.int .i64 r.kind, .int .i64 r.txn, .slice r.A r.n r.c] 48)).alloc (.cells #[.slice none 0 0] 25)).heap[w.heap.size + 1 + 1]? = some (.cells #[.slice none 0 0] 25 (0, 0)) := by
    simpa using heap_alloc_new ((w.alloc (.cells #[.slice A n c] 25)).alloc (.cells #[.int .i64 r.kind, .int .i64 r.txn, .slice r.A r.n r.c] 48)) (.cells #[.slice none 0 0] 25)
  have hz : (((w.alloc (.cells #[.slice A n c] 25)).alloc (.cells #[.int .i64 r.kind, .int .i64 r.txn, .slice r.A r.n r.c] 48)).alloc (.cells #[.slice none 0 0] 25)).heap.size = w.heap.size + 1 + 1 + 1 := by simp
  have HX := Lib.hid hX
  have HBX := Lib.hid hBX
  have HRR := Lib.hid hRR
  have HZ := Lib.hid hz
  have hb0 : Below w.heap.size w (((w.alloc (.cells #[.slice A n c] 25)).alloc (.cells #[.int .i64 r.kind, .int .i64 r.txn, .slice r.A r.n r.c] 48)).alloc (.cells #[.slice none 0 0] 25)) := (((Below.refl _ _).alloc (Nat.le_refl _) _).alloc (by simp) _).alloc (by simp; omega) _
  have HB0 := Lib.hid hb0
  clear h hs hr hX hBX hRR hz hb0
  go_enter Try.func48, Try.ntmps48
  go_wp2_with fail
  refine (l21Copy_any A n c rs _ lo (by omega) HSH.out (((HR.out.alloc _).alloc _).alloc _)).mono ?_
  rintro e w1 ⟨v, n', rs', hab, hro, hb1, rfl⟩
  rw [HZ.out] at hro hb1
  obtain ⟨A1, c1, rfl, hn1, hm1, hrecs⟩ := hro.recs
  have hnn : n' = n := by
    have h1 := hrecs.1.1
    have h2 := HR.out.1.1
    have : (abs rs').length = (abs rs).length := by rw [hab]
    rw [abs_len, abs_len] at this; omega
  subst hnn
  have HAB := Lib.hid hab
  have HRO := Lib.hid (hro.low (base' := w.heap.size) (by omega))
  have hro1 := hro
  have HB1 : Hid (Below w.heap.size w w1) := HB0.out.trans (hb1.mono (by omega))
  have HX1 : Hid (w1.heap[w.heap.size]? = some (.cells #[.slice A n' c] 25 (0, 0))) := (hb1.block _ (by omega)).trans HX.out
  have hbx1 : w1.heap[w.heap.size + 1]? = some (.cells #[.int .i64 r.kind, .int .i64 r.txn, .slice r.A r.n r.c] 48 (0, 0)) := (hb1.block _ (by omega)).trans HBX.out
  have HR1 : Hid (w1.heap[w.heap.size + 1 + 1]? = some (.cells #[.slice none 0 0] 25 (0, 0))) := (hb1.block _ (by omega)).trans HRR.out
  have HBX1 := Lib.hid hbx1
  have p0 : w1.cell? ⟨w.heap.size + 1, 0, none⟩ = some (.int .i64 r.kind) := cell_of_row w1 (w.heap.size + 1) 0 _ _ _ hbx1
  have p1 : w1.cell? ⟨w.heap.size + 1, 1, none⟩ = some (.int .i64 r.txn) := cell_of_row w1 (w.heap.size + 1) 1 _ _ _ hbx1
  have p2 : w1.cell? ⟨w.heap.size + 1, 2, none⟩ = some (.slice r.A r.n r.c) := cell_of_row w1 (w.heap.size + 1) 2 _ _ _ hbx1
  have pf : ∀ j, w1.frozen? ⟨w.heap.size + 1, j, none⟩ = false := fun j => frozen_of_row _ _ _ _ _ hbx1
  have hsz1 : w.heap.size + 1 + 1 + 1 ≤ w1.heap.size := by have := heap_lt HR1.out; omega
  have hl0 : w.heap.size < w1.heap.size := by omega
  have hl1 : w.heap.size + 1 < w1.heap.size := by omega
  have hl2 : w.heap.size + 1 + 1 < w1.heap.size := by omega
  have HI1 := Lib.hid (HI.out.bel HB1.out)
  have hq1 : ¬ (w1.heap.size = w.heap.size + 1) := by omega
  have hlit : ((w1.alloc (.cells #[.slice A1 n' c1] 25)).alloc (.cells #[] 87)).ownsRow (w1.heap.size + 1) 87 3 (.slice (some ⟨w1.heap.size + 1, 0, none⟩) 0 0) 0 [] := by
    have := own_lit_from (w := w1.alloc (.cells #[.slice A1 n' c1] 25)) (base := w1.heap.size + 1) (size := 3) (e := 87) (by simp)
    simpa using this
  have HLIT := Lib.hid hlit
  have hg1 := heap_alloc_new w1 (.cells #[.slice A1 n' c1] 25)
  have HG1 := Lib.hid hg1
  clear hab hro hb1 hrecs hbx1 hlit hg1 HX HBX HRR HZ HB0
  have tok1 : True := trivial
  have HRO1 := Lib.hid hro1
  clear hro1
  go_wp2_with (first | (at_builtin; have _t := tok1; go_must (refine wpList_app_at Try.elUpd HLIT.out ((HI1.out.1.alloc _).alloc _).2 (by rw [flat_len cu 3 cu_len, HI1.out.1.1]) (cus_one _) (by unfold maxLen; omega) (by omega) (by simp) rfl rfl rfl rfl ?_); intro v2 w2 hown2 hg2 hat2; rw [Nat.zero_add, List.nil_append] at hown2; obtain ⟨A2, c2, rfl, hmc2, hcm2, hU2⟩ := own_fl cu_len (by omega) hown2; have hbel2 := (((Below.refl w1.heap.size w1).alloc (Nat.le_refl _) (.cells #[.slice A1 n' c1] 25)).alloc (by simp) (.cells #[] 87)).grown hg2 (by simp; omega) (fun q hq => by have := (HLIT.out.lt q hq).1; omega); have hbx2 : w2.heap[w.heap.size + 1]? = some (.cells #[.int .i64 r.kind, .int .i64 r.txn, .slice r.A r.n r.c] 48 (0, 0)) := (hbel2.block _ (by omega)).trans HBX1.out; have q0 : w2.cell? ⟨w.heap.size + 1, 0, none⟩ = some (.int .i64 r.kind) := cell_of_row w2 (w.heap.size + 1) 0 _ _ _ hbx2; have q1 : w2.cell? ⟨w.heap.size + 1, 1, none⟩ = some (.int .i64 r.txn) := cell_of_row w2 (w.heap.size + 1) 1 _ _ _ hbx2; have q2 : w2.cell? ⟨w.heap.size + 1, 2, none⟩ = some (.slice r.A r.n r.c) := cell_of_row w2 (w.heap.size + 1) 2 _ _ _ hbx2; have qf : ∀ j, w2.frozen? ⟨w.heap.size + 1, j, none⟩ = false := (fun j => frozen_of_row _ _ _ _ _ hbx2); have hgx2 : w2.heap[w1.heap.size]? = some (.cells #[.slice A1 n' c1] 25 (0, 0)) := (hg2.block w1.heap.size (by simp; omega) (fun e => by have := (HLIT.out.lt _ e.symm).1; omega)).trans ((Below.heap_alloc _ _ _ (by simp)).trans HG1.out); have hcg2 : w2.cell? ⟨w1.heap.size, 0, none⟩ = some (.slice A1 n' c1) := cell_zero hgx2; have HGX2 := Lib.hid hgx2; have HBL2 := Lib.hid hbel2; have HT2 : Hid (RecOwn (w2.setCell ⟨w.heap.size + 1, 2, none⟩ (.slice A2 r.n c2)) w.heap.size (.slice A1 n' c1) n' rs') := ((HRO1.out.fresh hbel2).setLow (by omega) 2 _).low (by omega); have HRI : Hid (RecIn (w2.setCell ⟨w.heap.size + 1, 2, none⟩ (.slice A2 r.n c2)) w.heap.size ⟨r.kind, r.txn, A2, r.n, c2, r.us⟩) := ⟨(hU2.grown (set_grown _ _ _ _) (fun q hq => by injection hq with hq; omega)).low (by omega), hmc2, hcm2⟩; have HAP : Hid (ApartU (.slice A1 n' c1) ⟨r.kind, r.txn, A2, r.n, c2, r.us⟩) := apart_new HRO.out.1 hU2 (by omega); have hsz2 : w1.heap.size < w2.heap.size := heap_lt hgx2; have hl21 : w.heap.size + 1 < w2.heap.size := (by omega); have hne21 : ¬ (w.heap.size + 1 = w1.heap.size) := (by omega); have tok2 : True := trivial; clear tok1 hown2 hg2 hat2 hbel2 hbx2 hU2 hgx2) | (at_builtin; have _t := tok2; go_must (refine wpList_app_at Try.elRec (HT2.out.1.alloc _) (rd_newn (n := w2.heap.size) (by simp) (cr ⟨r.kind, r.txn, A2, r.n, c2, r.us⟩) _) rfl (cr_one _) (by unfold maxLen; omega) (by omega) (by simp; omega) rfl rfl rfl rfl ?_); intro v5 w5 hown5 hg5 hat5; have hro5 := HT2.out.app HRI.out HAP.out rfl hown5 hg5 hat5; have HRO5 := Lib.hid hro5; obtain ⟨A5, c5, rfl, hkc5, hm5, -⟩ := hro5.recs; have hbel5 : Below w.heap.size w w5 := ((((HB1.out.trans (HBL2.out.mono (by omega))).setCell (p := ⟨w.heap.size + 1, 2, none⟩) (by simp) (.slice A2 r.n c2)).alloc (by simp; omega) (.cells (cr ⟨r.kind, r.txn, A2, r.n, c2, r.us⟩).toArray 48)).grown hg5 (by simp; omega) (fun q hq => (HT2.out.1.lt q hq).1)); have hkeep5 : ∀ (q : Nat) (arr : Array Value), q ≠ w.heap.size + 1 → w2.heap[q]? = some (.cells arr 25 (0, 0)) → w5.heap[q]? = some (.cells arr 25 (0, 0)) := (fun q arr hq hh => (hg5.block q (by simp; exact Nat.lt_succ_of_lt (heap_lt hh)) (fun e => (HT2.out.ne_blk ((Below.heap_setCell _ _ _ q (by exact fun e' => hq e')).trans hh) (by decide)) e.symm)).trans ((Below.heap_alloc _ _ _ (by simp; exact heap_lt hh)).trans ((Below.heap_setCell _ _ _ q (by exact fun e' => hq e')).trans hh))); have HG5 := Lib.hid (hkeep5 w1.heap.size _ (by omega) HGX2.out); have HR5 := Lib.hid (hkeep5 (w.heap.size + 1 + 1) _ (by omega) ((HBL2.out.block _ (by omega)).trans HR1.out)); have HX5 := Lib.hid (hkeep5 w.heap.size _ (by omega) ((HBL2.out.block _ (by omega)).trans HX1.out)); have hcg5 : w5.cell? ⟨w1.heap.size, 0, none⟩ = some (.slice A1 n' c1) := cell_zero HG5.out; have hfg5 : w5.frozen? ⟨w1.heap.size, 0, none⟩ = false := frozen_of_row _ _ _ _ _ HG5.out; have HB5 := Lib.hid hbel5; clear tok2 hown5 hg5 hat5 hro5 hbel5 hkeep5))
  have HW6 : Hid (RecOwn (w5.setCell ⟨w1.heap.size, 0, none⟩ (.slice A5 (n' + 1) c5)) w.heap.size (.slice A5 (n' + 1) c5) (n' + 1) (rs' ++ [⟨r.kind, r.txn, A2, r.n, c2, r.us⟩])) := HRO5.out.put HG5.out (by decide) (shard_no (by simp)) _ _
  have HG6 : Hid ((w5.setCell ⟨w1.heap.size, 0, none⟩ (.slice A5 (n' + 1) c5)).heap[w1.heap.size]? = some (.cells #[.slice A5 (n' + 1) c5] 25 (0, 0))) := by
    show _ = _
    rw [heap_setCell_same _ _ _ _ _ _ HG5.out]; rfl
  have HX6 : Hid ((w5.setCell ⟨w1.heap.size, 0, none⟩ (.slice A5 (n' + 1) c5)).heap[w.heap.size]? = some (.cells #[.slice A n' c] 25 (0, 0))) := (Below.heap_setCell _ _ _ _ (by simp; omega)).trans HX5.out
  have HR6 : Hid ((w5.setCell ⟨w1.heap.size, 0, none⟩ (.slice A5 (n' + 1) c5)).heap[w.heap.size + 1 + 1]? = some (.cells #[.slice none 0 0] 25 (0, 0))) := (Below.heap_setCell _ _ _ _ (by simp; omega)).trans HR5.out
  have HB6 : Hid (Below w.heap.size w (w5.setCell ⟨w1.heap.size, 0, none⟩ (.slice A5 (n' + 1) c5))) := HB5.out.setCell (by simp; omega) _
  obtain ⟨A6, c6, he6, hkc6, hm6, hrec6⟩ := HW6.out.recs
  injection he6 with he61 _ he63
  subst he61 he63
  have HREC6 := Lib.hid hrec6
  clear hrec6
  refine (specValid_any A5 (n' + 1) c5 (rs' ++ [⟨r.kind, r.txn, A2, r.n, c2, r.us⟩]) _ w.heap.size hkc6 hm6 HB6.out.size HREC6.out).mono ?_
  rintro e w7 ⟨rfl, hb7⟩
  have hsh : abs (rs' ++ [⟨r.kind, r.txn, A2, r.n, c2, r.us⟩]) = abs rs ++ [r.ab] := by rw [abs_app, HAB.out]; rfl
  rw [hsh]
  have HW7 := Lib.hid (HW6.out.fresh hb7)
  have HB7 : Hid (Below w.heap.size w w7) := HB6.out.trans (hb7.mono HB6.out.size)
  have hx7 : w7.heap[w.heap.size]? = some (.cells #[.slice A n' c] 25 (0, 0)) := (hb7.block _ (heap_lt HX6.out)).trans HX6.out
  have hr7 : w7.heap[w.heap.size + 1 + 1]? = some (.cells #[.slice none 0 0] 25 (0, 0)) := (hb7.block _ (heap_lt HR6.out)).trans HR6.out
  have hg7 : w7.heap[w1.heap.size]? = some (.cells #[.slice A5 (n' + 1) c5] 25 (0, 0)) := (hb7.block _ (heap_lt HG6.out)).trans HG6.out
  have HR7 := Lib.hid hr7
  have z0 : w7.cell? ⟨w.heap.size, 0, none⟩ = some (.slice A n' c) := cell_zero hx7
  have z1 : w7.cell? ⟨w.heap.size + 1 + 1, 0, none⟩ = some (.slice none 0 0) := cell_zero hr7
  have z2 : w7.frozen? ⟨w.heap.size + 1 + 1, 0, none⟩ = false := frozen_of_row _ _ _ _ _ hr7
  have z3 : w7.cell? ⟨w1.heap.size, 0, none⟩ = some (.slice A5 (n' + 1) c5) := cell_zero hg7
  have HSHH := Lib.hid hsh
  clear hsh hb7 hx7 hr7 hg7
  rcases hv : shardB (abs rs ++ [r.ab]) with _ | _
  · have HL := Lib.hid (addL_no hv)
    have HV := Lib.hid hv
    have HR7R := Lib.hid (HR.out.bel HB7.out)
    go_wp2_with fail
    refine (l21Copy_any A n' c rs _ lo (by omega) HSH.out HR7R.out).mono ?_
    rintro e w8 ⟨v8, n8, rs8, hab8, hro8, hb8, rfl⟩
    have hr8 : w8.heap[w.heap.size + 1 + 1]? = some (.cells #[.slice none 0 0] 25 (0, 0)) := (hb8.block _ (heap_lt HR7.out)).trans HR7.out
    have y1 : w8.cell? ⟨w.heap.size + 1 + 1, 0, none⟩ = some (.slice none 0 0) := cell_zero hr8
    have y2 : w8.frozen? ⟨w.heap.size + 1 + 1, 0, none⟩ = false := frozen_of_row _ _ _ _ _ hr8
    obtain ⟨A8, c8, rfl, -, -, -⟩ := hro8.recs
    have HRO8 := Lib.hid ((hro8.low (base' := w.heap.size) HB7.out.size).put hr8 (by decide) (shard_no (by simp)) 0 (.slice A8 n8 c8))
    have HAB8 := Lib.hid hab8
    have HB8 : Hid (Below w.heap.size w w8) := HB7.out.trans (hb8.mono HB7.out.size)
    clear hro8 hab8 hb8 hr8
    go_wp2_with fail
    refine bodyPost_ret (v := .tuple #[.agg #[.slice A8 n8 c8], .bool false]) (by simp [results, Try.results48, go_sem, y1]) rfl ⟨_, n8, rs8, ?_, HRO8.out, HB8.out.setCell (by simp; omega) _, ret_tupb HV.out.symm⟩
    rw [HL.out]; exact HAB8.out
  · have HL := Lib.hid (addL_yes hv)
    have HV := Lib.hid hv
    go_wp2_with fail
    refine bodyPost_ret (v := .tuple #[.agg #[.slice A5 (n' + 1) c5], .bool true]) (by simp [results, Try.results48, go_sem, z1]) rfl ⟨_, n' + 1, rs' ++ [⟨r.kind, r.txn, A2, r.n, c2, r.us⟩], ?_, HW7.out.put HR7.out (by decide) (shard_no (by simp)) _ _, HB7.out.setCell (by simp; omega) _, ret_tupb HV.out.symm⟩
    rw [HL.out]; exact HSHH.out

end Go.Proofs.Ytgnhanbdfohjaaa
