/-
  The walk of l21Copy of the reference: a shard in new memory. Condition: lengths in reach.
-/
import Derived.Test.YtgnhanbdfohjaaaRecO
namespace Go.Proofs.Ytgnhanbdfohjaaa
set_option linter.unusedVariables false
set_option linter.unusedSimpArgs false
open Go.RowKit
attribute [local go_sem ↓] Go.wp_at_zero Go.wp_at_succ

theorem cu_nil {us : List Upd} : us.flatMap cu = [] ↔ us = [] := by
  rcases us with _ | ⟨u, us⟩ <;> simp [cu]
theorem shard_no {v : Value} (hv : ∀ x : Int, v ≠ .int .i64 x) : ∀ (j : Nat) (x : Int), (#[v] : Array Value)[j]? ≠ some (.int .i64 x) := by
  intro j x
  rcases j with _ | j
  · simpa using hv x
  · simp

set_option linter.unusedVariables false in
set_option maxRecDepth 100000 in
set_option maxHeartbeats 3200000 in
theorem l21Copy_any (A : Option Addr) (n c : Nat) (rs : List RecC) (w : World) (lo : Nat) (hn : n ≤ 1000) (hs : ∀ r ∈ rs, r.n ≤ 1000) (h : Recs w lo A n rs) :
    Calls Try.prog 47 #[.agg #[.slice A n c]] w fun e w' => ShRet (abs rs) w.heap.size w e w' := by
  have HR := Lib.hid h
  have HSH := Lib.hid hs
  clear h hs
  have hown0' : (((w.alloc (.cells #[.slice A n c] 25)).alloc (.cells #[.slice none 0 0] 25)).alloc (.cells #[] 48)).ownsRow w.heap.size 48 3 (.slice (some ⟨w.heap.size + 1 + 1, 0, none⟩) 0 0) 0 [] := by
    have := own_lit_from (w := (w.alloc (.cells #[.slice A n c] 25)).alloc (.cells #[.slice none 0 0] 25)) (base := w.heap.size) (size := 3) (e := 48) (by simp; omega)
    exact (by simpa using this)
  have hT0 : RecOwn ((((w.alloc (.cells #[.slice A n c] 25)).alloc (.cells #[.slice none 0 0] 25)).alloc (.cells #[] 48)).alloc (.cells #[.slice (some ⟨w.heap.size + 1 + 1, 0, none⟩) 0 0] 25)) w.heap.size (.slice (some ⟨w.heap.size + 1 + 1, 0, none⟩) 0 0) 0 [] := RecOwn.nil (hown0'.alloc _)
  have HT0 := Lib.hid hT0
  have hG0' : ((((w.alloc (.cells #[.slice A n c] 25)).alloc (.cells #[.slice none 0 0] 25)).alloc (.cells #[] 48)).alloc (.cells #[.slice (some ⟨w.heap.size + 1 + 1, 0, none⟩) 0 0] 25)).heap[w.heap.size + 1 + 1 + 1]? = some (.cells #[.slice (some ⟨w.heap.size + 1 + 1, 0, none⟩) 0 0] 25 (0, 0)) := by
    have := heap_alloc_new (((w.alloc (.cells #[.slice A n c] 25)).alloc (.cells #[.slice none 0 0] 25)).alloc (.cells #[] 48)) (.cells #[.slice (some ⟨w.heap.size + 1 + 1, 0, none⟩) 0 0] 25)
    simpa using this
  have hG0 := Lib.hid hG0'
  clear hG0'
  have hR0 : Hid (((((w.alloc (.cells #[.slice A n c] 25)).alloc (.cells #[.slice none 0 0] 25)).alloc (.cells #[] 48)).alloc (.cells #[.slice (some ⟨w.heap.size + 1 + 1, 0, none⟩) 0 0] 25)).heap[w.heap.size + 1]? = some (.cells #[.slice none 0 0] 25 (0, 0))) := by
    have := heap_alloc_new (w.alloc (.cells #[.slice A n c] 25)) (.cells #[.slice none 0 0] 25)
    exact (Below.heap_alloc _ _ _ (by simp)).trans ((Below.heap_alloc _ _ _ (by simp)).trans (by simpa using this))
  have hX0 : Hid (((((w.alloc (.cells #[.slice A n c] 25)).alloc (.cells #[.slice none 0 0] 25)).alloc (.cells #[] 48)).alloc (.cells #[.slice (some ⟨w.heap.size + 1 + 1, 0, none⟩) 0 0] 25)).heap[w.heap.size]? = some (.cells #[.slice A n c] 25 (0, 0))) :=
    (Below.heap_alloc _ _ _ (by simp; omega)).trans ((Below.heap_alloc _ _ _ (by simp; omega)).trans ((Below.heap_alloc _ _ _ (by simp)).trans (heap_alloc_new w _)))
  have hB0 : Hid (Below w.heap.size w ((((w.alloc (.cells #[.slice A n c] 25)).alloc (.cells #[.slice none 0 0] 25)).alloc (.cells #[] 48)).alloc (.cells #[.slice (some ⟨w.heap.size + 1 + 1, 0, none⟩) 0 0] 25))) :=
    ((((Below.refl _ _).alloc (Nat.le_refl _) _).alloc (by simp) _).alloc (by simp; omega) _).alloc (by simp; omega) _
  clear hT0 hown0'
  go_enter Try.func47, Try.ntmps47
  go_wp2_with fail
  generalize hge : w.heap.size + 1 + 1 + 1 = g at *
  have hgw : w.heap.size + 1 < g := by omega
  have HGE := Lib.hid hge
  clear hge
  go_loopw [4] (fun i wr => ∃ (k : Nat) (v : Value) (rs' : List RecC), k ≤ n ∧ i = .int .i64 k ∧ abs rs' = abs (rs.take k) ∧ RecOwn wr w.heap.size v k rs' ∧ wr.heap[g]? = some (.cells #[v] 25 (0, 0)) ∧ wr.heap[w.heap.size + 1]? = some (.cells #[.slice none 0 0] 25 (0, 0)) ∧ wr.heap[w.heap.size]? = some (.cells #[.slice A n c] 25 (0, 0)) ∧ Below w.heap.size w wr) (fun i _ => n - (intOf i).toNat)
  case atStart => exact ⟨0, _, [], Nat.zero_le _, rfl, rfl, HT0.out, hG0.out, hR0.out, hX0.out, hB0.out⟩
  case round =>
    obtain ⟨k, v, rs', hk, rfl, hab, hT, hg, hr, hx, hb⟩ := hrel
    have HAB := Lib.hid hab
    have HT := Lib.hid hT
    have HG := Lib.hid hg
    have HR0 := Lib.hid hr
    have HX := Lib.hid hx
    have HB := Lib.hid hb
    have HRW := Lib.hid (HR.out.bel hb)
    obtain ⟨A9, c9, rfl, hkc9, hm9, -⟩ := hT.recs
    have hgs := heap_lt hg
    have hrs := heap_lt hr
    have hws : w.heap.size ≤ wr.heap.size := hb.size
    have hfg : wr.frozen? ⟨g, 0, none⟩ = false := frozen_of_row _ _ _ _ _ hg
    have hcg : wr.cell? ⟨g, 0, none⟩ = some (.slice A9 k c9) := cell_zero hg
    have hcx : wr.cell? ⟨w.heap.size, 0, none⟩ = some (.slice A n c) := cell_zero hx
    have hcr : wr.cell? ⟨w.heap.size + 1, 0, none⟩ = some (.slice none 0 0) := cell_zero hr
    have hfr : wr.frozen? ⟨w.heap.size + 1, 0, none⟩ = false := frozen_of_row _ _ _ _ _ hr
    clear hab hT hg hr hx hb HT0 hG0 hR0 hX0 hB0
    by_cases hlt : k < n
    · obtain ⟨b, o, hll, rfl, _, hblt, hc0, hc1, hc2, hin⟩ := HRW.out.at_ hlt
      have HIN := Lib.hid hin
      have hrn := HSH.out _ (List.getElem_mem hll)
      have hrbd := hin.2
      clear hin
      have hlit : ((wr.alloc (.cells #[.int .i64 rs[k].kind, .int .i64 rs[k].txn, .slice rs[k].A rs[k].n rs[k].c] 48)).alloc (.cells #[] 87)).ownsRow (wr.heap.size + 1) 87 3 (.slice (some ⟨wr.heap.size + 1, 0, none⟩) 0 0) 0 [] := by
        have := own_lit_from (w := wr.alloc (.cells #[.int .i64 rs[k].kind, .int .i64 rs[k].txn, .slice rs[k].A rs[k].n rs[k].c] 48)) (base := wr.heap.size + 1) (size := 3) (e := 87) (by simp)
        simpa using this
      have HLIT := Lib.hid hlit
      clear hlit
      have tok1 : True := trivial
      go_wp2_with (first | (at_builtin; have _t := tok1; go_must (refine wpList_app_at Try.elUpd HLIT.out ((HIN.out.1.alloc _).alloc _).2 (by rw [flat_len cu 3 cu_len, HIN.out.1.1]) (cus_one _) (by unfold maxLen; omega) (by omega) (by simp) rfl rfl rfl rfl ?_); intro v2 w2 hown2 hg2 hat2; rw [Nat.zero_add, List.nil_append] at hown2; obtain ⟨A2, c2, rfl, hmc2, hcm2, hU2⟩ := own_fl cu_len (by omega) hown2; have HU2 := Lib.hid hU2; have hbel2 := (((Below.refl wr.heap.size wr).alloc (Nat.le_refl _) (.cells #[.int .i64 rs[k].kind, .int .i64 rs[k].txn, .slice rs[k].A rs[k].n rs[k].c] 48)).alloc (by simp) (.cells #[] 87)).grown hg2 (by simp; omega) (fun q hq => by have := (HLIT.out.lt q hq).1; omega); have hbx2 : w2.heap[wr.heap.size]? = some (.cells #[.int .i64 rs[k].kind, .int .i64 rs[k].txn, .slice rs[k].A rs[k].n rs[k].c] 48 (0, 0)) := (hg2.block wr.heap.size (by simp; omega) (fun e => by have := (HLIT.out.lt _ e.symm).1; omega)).trans ((Below.heap_alloc _ _ _ (by simp)).trans (heap_alloc_new wr _)); have p0 := cell_of_row w2 wr.heap.size 0 _ _ _ hbx2; have p1 := cell_of_row w2 wr.heap.size 1 _ _ _ hbx2; have p2 := cell_of_row w2 wr.heap.size 2 _ _ _ hbx2; have pf : ∀ j, w2.frozen? ⟨wr.heap.size, j, none⟩ = false := (fun j => frozen_of_row _ _ _ _ _ hbx2); have hcg2 : w2.cell? ⟨g, 0, none⟩ = some (.slice A9 k c9) := (hbel2.cell hgs).trans hcg; have hne2 : ¬ (wr.heap.size = g) := (by omega); have HBL2 := Lib.hid hbel2; have HT2 : Hid (RecOwn (w2.setCell ⟨wr.heap.size, 2, none⟩ (.slice A2 rs[k].n c2)) w.heap.size (.slice A9 k c9) k rs') := HT.out.fresh (hbel2.setCell (Nat.le_refl _) _); have HRI : Hid (RecIn (w2.setCell ⟨wr.heap.size, 2, none⟩ (.slice A2 rs[k].n c2)) w.heap.size ⟨rs[k].kind, rs[k].txn, A2, rs[k].n, c2, rs[k].us⟩) := ⟨(hU2.grown (set_grown _ _ _ _) (fun q hq => by injection hq with hq; omega)).low (by omega), hmc2, hcm2⟩; have HAP : Hid (ApartU (.slice A9 k c9) ⟨rs[k].kind, rs[k].txn, A2, rs[k].n, c2, rs[k].us⟩) := apart_new HT.out.1 hU2 (by omega); have hsz2 : wr.heap.size < w2.heap.size := heap_lt hbx2; have tok2 : True := trivial; clear tok1 hown2 hg2 hat2 hbel2 hbx2 hU2) | (at_builtin; have _t := tok2; go_must (refine wpList_app_at Try.elRec (HT2.out.1.alloc _) (rd_newn (n := w2.heap.size) (by simp) (cr ⟨rs[k].kind, rs[k].txn, A2, rs[k].n, c2, rs[k].us⟩) _) rfl (cr_one _) (by unfold maxLen; omega) (by omega) (by simp; omega) rfl rfl rfl rfl ?_); intro v5 w5 hown5 hg5 hat5; have hro := HT2.out.app HRI.out HAP.out rfl hown5 hg5 hat5; have HRO := Lib.hid hro; obtain ⟨A5, c5, rfl, hkc5, hm5, -⟩ := hro.recs; have hbel5 : Below w.heap.size w w5 := ((((HB.out.trans (HBL2.out.mono hws)).setCell (p := ⟨wr.heap.size, 2, none⟩) (by simp; omega) (.slice A2 rs[k].n c2)).alloc (by simp; omega) (.cells (cr ⟨rs[k].kind, rs[k].txn, A2, rs[k].n, c2, rs[k].us⟩).toArray 48)).grown hg5 (by simp; omega) (fun q hq => (HT2.out.1.lt q hq).1)); have hkeep5 : ∀ (q : Nat) (arr : Array Value), q < wr.heap.size → wr.heap[q]? = some (.cells arr 25 (0, 0)) → w5.heap[q]? = some (.cells arr 25 (0, 0)) := (fun q arr hq hh => (hg5.block q (by simp; omega) (fun e => (HT.out.ne_blk hh (by decide)) e.symm)).trans ((Below.heap_alloc _ _ _ (by simp; omega)).trans ((Below.heap_setCell _ _ _ q (by simp; omega)).trans ((HBL2.out.block q hq).trans hh)))); have HG5 := Lib.hid (hkeep5 g _ hgs HG.out); have HR5 := Lib.hid (hkeep5 _ _ hrs HR0.out); have HX5 := Lib.hid (hkeep5 _ _ (by omega) HX.out); have hcg5 : w5.cell? ⟨g, 0, none⟩ = some (.slice A9 k c9) := cell_zero HG5.out; have hfg5 : w5.frozen? ⟨g, 0, none⟩ = false := frozen_of_row _ _ _ _ _ HG5.out; have HB5 := Lib.hid hbel5; clear tok2 hown5 hg5 hat5 hro hbel5 hkeep5))
      refine ⟨⟨k + 1, _, rs' ++ [⟨rs[k].kind, rs[k].txn, A2, rs[k].n, c2, rs[k].us⟩], by omega, by go_num, ?_, HRO.out.put HG5.out (by decide) (shard_no (by simp)) _ _, ?_, ?_, ?_, ?_⟩, by simp [intOf]; omega⟩
      · rw [abs_take_succ hll, ← HAB.out]; unfold abs; rw [List.map_append]; rfl
      · rw [heap_setCell_same _ _ _ _ _ _ HG5.out]; rfl
      · exact (Below.heap_setCell _ _ _ _ (by simp; omega)).trans HR5.out
      · exact (Below.heap_setCell _ _ _ _ (by simp; omega)).trans HX5.out
      · exact HB5.out.setCell (by simp; omega) _
    · have hkn : k = n := by omega
      subst hkn
      have hab := HAB.out
      rw [List.take_of_length_le (by rw [HR.out.1.1]; exact Nat.le_refl _)] at hab
      have HABF := Lib.hid hab
      clear hab
      go_wp2_with fail
      exact bodyPost_ret (v := .agg #[.slice A9 k c9]) (by simp [results, Try.results47, go_sem, hcr]) rfl ⟨_, k, rs', HABF.out, HT.out.put HR0.out (by decide) (shard_no (by simp)) _ _, HB.out.setCell (by simp) _, rfl⟩

end Go.Proofs.Ytgnhanbdfohjaaa
