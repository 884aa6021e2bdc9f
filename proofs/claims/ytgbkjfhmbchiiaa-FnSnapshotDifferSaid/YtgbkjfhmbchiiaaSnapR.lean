/-
  The walk of the program's Coordinator.refsAfter: the refs of a shard behind the first transactions of the order. Condition: the coordinator is valid, the number is one of its places.
-/
import Derived.Test.YtgbkjfhmbchiiaaM12
import Derived.Test.YtgbkjfhmbchiiaaM10
import Derived.Test.YtgbkjfhmbchiiaaM15
import Derived.Test.YtgbkjfhmbchiiaaM13
namespace Go.Proofs.Ytgbkjfhmbchiiaa
set_option linter.unusedVariables false
set_option linter.unusedSimpArgs false
open Go.RowKit

/-- a table of four refs, as a value -/
def r4 (xs : List Int) : Value := .agg (xs.map (Value.int .i64)).toArray
theorem r4_at {a b c d : Int} : r4 [a, b, c, d] = .agg #[.int .i64 a, .int .i64 b, .int .i64 c, .int .i64 d] := rfl
theorem tab_cells {w : World} {g : Nat} {xs : List Int} (h : Tab w g xs) (hl : xs.length = 4) :
    ∃ a b c d, xs = [a, b, c, d] ∧ w.cell? ⟨g, 0, none⟩ = some (.int .i64 a) ∧ w.cell? ⟨g, 1, none⟩ = some (.int .i64 b) ∧ w.cell? ⟨g, 2, none⟩ = some (.int .i64 c) ∧ w.cell? ⟨g, 3, none⟩ = some (.int .i64 d) := by
  obtain ⟨a, b, c, d, rfl⟩ := lst4 hl
  exact ⟨a, b, c, d, rfl, cell_of_row w g 0 _ _ _ h, cell_of_row w g 1 _ _ _ h, cell_of_row w g 2 _ _ _ h, cell_of_row w g 3 _ _ _ h⟩
theorem stepR_yes {ts : List TxnD} {s x : Int} {refs : List Int} (hl : x.toNat < ts.length) (h : 0 ≤ partIx ts[x.toNat].parts s) (hp : (partIx ts[x.toNat].parts s).toNat < ts[x.toNat].parts.length) : stepR ts s refs x = setR refs ts[x.toNat].parts[(partIx ts[x.toNat].parts s).toNat].us := by
  unfold stepR updsOf
  rw [List.getD_eq_getElem?_getD, List.getElem?_eq_getElem hl, Option.getD_some, if_pos h, List.getD_eq_getElem?_getD, List.getElem?_eq_getElem hp]; rfl
theorem stepR_no {ts : List TxnD} {s x : Int} {refs : List Int} (hl : x.toNat < ts.length) (h : ¬ 0 ≤ partIx ts[x.toNat].parts s) : stepR ts s refs x = refs := by
  unfold stepR
  rw [List.getD_eq_getElem?_getD, List.getElem?_eq_getElem hl, Option.getD_some, if_neg h]

set_option maxHeartbeats 3200000 in
set_option maxRecDepth 100000 in
theorem refsAfter_any (txns : List TxnD) (order : List Int) (s : Int) (m : Nat) (A0 : Option Addr) (n0 c0 : Nat) (A1 : Option Addr) (n1 c1 : Nat) (w : World) (lo hi : Nat) (hh : hi ≤ w.heap.size) (hr0 : D.rd w lo hi (dTxns txns) (.slice A0 n0 c0)) (hr1 : D.rd w lo hi (intsD order) (.slice A1 n1 c1)) (hv : coordB ⟨txns, order⟩ = true) (hm : m ≤ n1) :
    Calls Try.prog 40 #[.agg #[.slice A0 n0 c0, .slice A1 n1 c1], .int .i64 s, .int .i64 (m : Int)] w fun e w' => e = .returned (r4 (refsTo txns s order m)) ∧ Below w.heap.size w w' := by
  have HB0 : Hid (Below w.heap.size w ((w.alloc (.cells #[.slice A0 n0 c0, .slice A1 n1 c1] 26)).alloc (.cells #[.int .i64 0, .int .i64 0, .int .i64 0, .int .i64 0] 65))) := ((Below.refl _ _).alloc (Nat.le_refl _) _).alloc (by simp) _
  have HX0 : Hid (((w.alloc (.cells #[.slice A0 n0 c0, .slice A1 n1 c1] 26)).alloc (.cells #[.int .i64 0, .int .i64 0, .int .i64 0, .int .i64 0] 65)).heap[w.heap.size]? = some (.cells #[.slice A0 n0 c0, .slice A1 n1 c1] 26 (0, 0))) := Lib.hid ((Below.heap_alloc _ _ _ (by simp)).trans (heap_alloc_new w _))
  have HR0 : Hid (((w.alloc (.cells #[.slice A0 n0 c0, .slice A1 n1 c1] 26)).alloc (.cells #[.int .i64 0, .int .i64 0, .int .i64 0, .int .i64 0] 65)).heap[w.heap.size + 1]? = some (.cells #[.int .i64 0, .int .i64 0, .int .i64 0, .int .i64 0] 65 (0, 0))) := by
    have := heap_alloc_new (w.alloc (.cells #[.slice A0 n0 c0, .slice A1 n1 c1] 26)) (.cells #[.int .i64 0, .int .i64 0, .int .i64 0, .int .i64 0] 65)
    exact Lib.hid (by simpa using this)
  have HT := Lib.hid hr0
  have HO := Lib.hid hr1.ints
  have HL := Lib.hid hr1.ints.1
  have HN0 := Lib.hid hr0.len.1
  have hmc := hr1.len
  have HV := Lib.hid hv
  have hc1 : m ≤ c1 := by omega
  have hm63 : n1 ≤ 9223372036854775807 := by omega
  clear hr0 hr1 hv hmc
  go_enter Try.func40, Try.ntmps40
  go_wp2_with fail
  refine (noRefs_any _).mono ?_
  rintro e w1 ⟨rfl, hb1⟩
  have HB1 := Lib.hid (bel_tr HB0.out (Nat.le_refl _) hb1)
  have HX1 := Lib.hid ((hb1.block _ (hlt_of HX0.out)).trans HX0.out)
  have HR1 := Lib.hid ((hb1.block _ (hlt_of HR0.out)).trans HR0.out)
  have hz1 : w.heap.size + 1 < w1.heap.size := hlt_of HR1.out
  have HTA : Hid (Tab (w1.alloc (.cells #[.int .i64 (-1), .int .i64 (-1), .int .i64 (-1), .int .i64 (-1)] 65)) w1.heap.size (refsTo txns s order 0)) := by
    show Tab _ _ _
    rw [refsTo_zero]
    exact heap_alloc_new w1 _
  have HBA : Hid (Below w.heap.size w (w1.alloc (.cells #[.int .i64 (-1), .int .i64 (-1), .int .i64 (-1), .int .i64 (-1)] 65))) := Lib.hid (HB1.out.alloc (by omega) _)
  have HXA : Hid ((w1.alloc (.cells #[.int .i64 (-1), .int .i64 (-1), .int .i64 (-1), .int .i64 (-1)] 65)).heap[w.heap.size]? = some (.cells #[.slice A0 n0 c0, .slice A1 n1 c1] 26 (0, 0))) := Lib.hid ((Below.heap_alloc w1 _ _ (by omega)).trans HX1.out)
  have HRA : Hid ((w1.alloc (.cells #[.int .i64 (-1), .int .i64 (-1), .int .i64 (-1), .int .i64 (-1)] 65)).heap[w.heap.size + 1]? = some (.cells #[.int .i64 0, .int .i64 0, .int .i64 0, .int .i64 0] 65 (0, 0))) := Lib.hid ((Below.heap_alloc w1 _ _ hz1).trans HR1.out)
  have b1 := cell_of_row w1 w.heap.size 1 _ _ _ HX1.out
  have hz1a : w.heap.size < w1.heap.size := by omega
  clear hb1
  go_wp2_with fail
  go_loopw [17] (fun i wr => ∃ k : Nat, k ≤ m ∧ i = .int .i64 k ∧ Hid (Tab wr w1.heap.size (refsTo txns s order k)) ∧ Hid (wr.heap[w.heap.size]? = some (.cells #[.slice A0 n0 c0, .slice A1 n1 c1] 26 (0, 0))) ∧ Hid (wr.heap[w.heap.size + 1]? = some (.cells #[.int .i64 0, .int .i64 0, .int .i64 0, .int .i64 0] 65 (0, 0))) ∧ Below w.heap.size w wr) (fun i _ => m - (intOf i).toNat)
  case atStart => exact ⟨0, Nat.zero_le _, rfl, HTA.out, HXA.out, HRA.out, HBA.out⟩
  case round =>
    obtain ⟨k, hk, rfl, HTB, HX, HRR, hb⟩ := hrel
    have HB := Lib.hid hb
    have hwg : w1.heap.size < wr.heap.size := HTB.out.lt
    have hwsz : w.heap.size < wr.heap.size := by omega
    have hwsz1 : w.heap.size + 1 < wr.heap.size := by omega
    have b0 := cell_of_row wr w.heap.size 0 _ _ _ HX.out
    clear hb HTA HXA HRA HBA
    by_cases hlt : k < m
    · obtain ⟨bo, oo, hlo, rfl, _, hboh, hco⟩ := (HO.out.below HB.out hh).int (k := k) (by omega)
      have hot := ord_txn HV.out (k := k) hlo
      dsimp only at hot
      obtain ⟨hx0, hx1, hx2⟩ := hot
      have hx3 : order[k].toNat < n0 := by have := HN0.out; omega
      have hx4 : order[k] < (n0 : Int) := by omega
      obtain ⟨b, o, hl, A2, n2, c2, A3, n3, c3, rfl, _, hbh, hc0, hc1', hc2, ⟨hn2, hm2, hr2⟩, -⟩ := rd_Txn (HT.out.below HB.out hh) (k := order[k].toNat) hx3
      have hps : partsB txns[order[k].toNat].parts = true := by
        rw [List.getD_eq_getElem?_getD, List.getElem?_eq_getElem hl] at hx2
        exact hx2
      have HPS := Lib.hid hps
      have hhr : hi ≤ wr.heap.size := by omega
      have hbw : b < wr.heap.size := by omega
      have hbow : bo < wr.heap.size := by omega
      have HP := Lib.hid (hr2.alloc hhr (.cells #[.slice A2 n2 c2, .slice A3 n3 c3, .int .i64 txns[order[k].toNat].dec] 46))
      have HBB : Hid (Below w.heap.size w (wr.alloc (.cells #[.slice A2 n2 c2, .slice A3 n3 c3, .int .i64 txns[order[k].toNat].dec] 46))) := Lib.hid (HB.out.alloc (by omega) _)
      have HXB : Hid ((wr.alloc (.cells #[.slice A2 n2 c2, .slice A3 n3 c3, .int .i64 txns[order[k].toNat].dec] 46)).heap[w.heap.size]? = some (.cells #[.slice (some ⟨b, o, none⟩) n0 c0, .slice (some ⟨bo, oo, none⟩) n1 c1] 26 (0, 0))) := Lib.hid ((Below.heap_alloc wr _ _ hwsz).trans HX.out)
      have HRB : Hid ((wr.alloc (.cells #[.slice A2 n2 c2, .slice A3 n3 c3, .int .i64 txns[order[k].toNat].dec] 46)).heap[w.heap.size + 1]? = some (.cells #[.int .i64 0, .int .i64 0, .int .i64 0, .int .i64 0] 65 (0, 0))) := Lib.hid ((Below.heap_alloc wr _ _ hwsz1).trans HRR.out)
      have HTT : Hid (Tab (wr.alloc (.cells #[.slice A2 n2 c2, .slice A3 n3 c3, .int .i64 txns[order[k].toNat].dec] 46)) w1.heap.size (refsTo txns s order k)) := Lib.hid (HTB.out.alloc _)
      have HYB : Hid ((wr.alloc (.cells #[.slice A2 n2 c2, .slice A3 n3 c3, .int .i64 txns[order[k].toNat].dec] 46)).heap[wr.heap.size]? = some (.cells #[.slice A2 n2 c2, .slice A3 n3 c3, .int .i64 txns[order[k].toNat].dec] 46 (0, 0))) := Lib.hid (heap_alloc_new wr _)
      have HST := Lib.hid (refsTo_succ (ts := txns) (s := s) hlo)
      have HRL := Lib.hid (refsTo_len HV.out s (k := k) (by show k ≤ order.length; omega))
      clear hr2 hps hx2
      go_wp2_with fail
      refine (partAt_any s txns[order[k].toNat].parts A2 n2 c2 A3 n3 c3 txns[order[k].toNat].dec _ lo hi (by simp; omega) HP.out).mono ?_
      rintro e w2 ⟨rfl, hb2⟩
      have HB2 := Lib.hid (bel_tr HBB.out (Nat.le_refl _) hb2)
      have HX2 := Lib.hid ((hb2.block _ (hlt_of HXB.out)).trans HXB.out)
      have HR2 := Lib.hid ((hb2.block _ (hlt_of HRB.out)).trans HRB.out)
      have HY2 := Lib.hid ((hb2.block _ (hlt_of HYB.out)).trans HYB.out)
      have HT2 : Hid (Tab w2 w1.heap.size (refsTo txns s order k)) := Lib.hid ((hb2.block _ HTT.out.lt).trans HTT.out)
      have HP2 := Lib.hid (HP.out.below hb2 (by simp; omega))
      have hzy : wr.heap.size < w2.heap.size := hlt_of HY2.out
      have e0 := cell_of_row w2 wr.heap.size 0 _ _ _ HY2.out
      have e1 := cell_of_row w2 wr.heap.size 1 _ _ _ HY2.out
      have e2 := cell_of_row w2 wr.heap.size 2 _ _ _ HY2.out
      have hlt2 := partIx_lt txns[order[k].toNat].parts s
      obtain ⟨x, hx⟩ : ∃ x, partIx txns[order[k].toNat].parts s = x := ⟨_, rfl⟩
      have HXX := Lib.hid hx
      rw [hx] at hlt2 ⊢
      clear hb2 hx
      by_cases hxn : x < 0
      · have HS : Hid (refsTo txns s order (k + 1) = refsTo txns s order k) := by
          show _ = _
          rw [HST.out, stepR_no hl (by rw [HXX.out]; omega)]
        have HT3 : Hid (Tab w2 w1.heap.size (refsTo txns s order (k + 1))) := by
          show Tab _ _ _
          rw [HS.out]; exact HT2.out
        have hxd : decide (0 ≤ x) = false := decide_eq_false (by omega)
        go_wp2_with fail
        exact ⟨⟨k + 1, by omega, by go_num, HT3.out, HX2.out, HR2.out, HB2.out⟩, by simp [intOf]; omega⟩
      · have hx0' : 0 ≤ x := by omega
        have hxd : decide (0 ≤ x) = true := decide_eq_true hx0'
        have hxl : x.toNat < n2 := by have := HP.out.len; unfold dParts at this; omega
        have hxl2 : x < (n2 : Int) := by omega
        obtain ⟨bp, op, hlp, A4, n4, c4, rfl, _, hbph, hp0, hp1, ⟨hn4, hm4, hr4⟩⟩ := rd_Part HP2.out hxl
        have HU : Hid (Fl cu w2 lo hi A4 n4 txns[order[k].toNat].parts[x.toNat].us) := Lib.hid hr4.upds
        have HUR := Lib.hid (upds_refs (partsB_upds HPS.out (List.getElem_mem hlp)))
        have HS : Hid (refsTo txns s order (k + 1) = setR (refsTo txns s order k) txns[order[k].toNat].parts[x.toNat].us) := by
          show _ = _
          rw [HST.out, stepR_yes hl (by rw [HXX.out]; exact hx0') (by rw [HXX.out]; exact hlp)]
          simp only [HXX.out]
        have hbpw : bp < w2.heap.size := by omega
        have hh2 : hi ≤ w2.heap.size := by omega
        clear hr4 hxn
        go_wp2_with fail
        go_region_with
          (first
            | (go_at_call 59; (refine (partAt_any s txns[order[k].toNat].parts (some ⟨bp, op, none⟩) n2 c2 A3 n3 c3 txns[order[k].toNat].dec w2.drew lo hi (by show hi ≤ w2.heap.size; exact hh2) HP2.out.drew).mono ?_); rintro e w3 ⟨rfl, hb3⟩; have hb3' : Below w2.heap.size w2 w3 := (Below.refl _ _).drew.trans hb3; have HB3 := Lib.hid (bel_tr HB2.out (Nat.le_refl _) hb3'); have HX3 := Lib.hid ((hb3'.block _ (hlt_of HX2.out)).trans HX2.out); have HR3 := Lib.hid ((hb3'.block _ (hlt_of HR2.out)).trans HR2.out); have HT3 : Hid (Tab w3 w1.heap.size (refsTo txns s order k)) := Lib.hid ((hb3'.block _ HT2.out.lt).trans HT2.out); have f0 : w3.cell? ⟨wr.heap.size, 0, none⟩ = some (.slice (some ⟨bp, op, none⟩) n2 c2) := (hb3'.cell hzy).trans e0; have f1 : w3.cell? ⟨bp, op + x.toNat * 2 + 1, none⟩ = some (.slice A4 n4 c4) := (hb3'.cell hbpw).trans hp1; have HU3 := Lib.hid (HU.out.below hb3' hh2); have hz3 := hb3'.size; (rw [HXX.out]); clear hb3 hb3')
            | (go_at_call 60; (refine (set_any w1.heap.size A4 n4 c4 txns[order[k].toNat].parts[x.toNat].us (refsTo txns s order k) w3 lo hi (by omega) (by omega) HRL.out HUR.out HT3.out HU3.out).mono ?_); rintro e w4 ⟨rfl, ht4, hg4⟩; have HT4 : Hid (Tab w4 w1.heap.size (refsTo txns s order (k + 1))) := Lib.hid (by rw [HS.out]; exact ht4); have HB4 := Lib.hid (below_row HB3.out (by omega) hg4 (by omega)); have HX4 := Lib.hid ((hg4.block _ (hlt_of HX3.out) (fun e => by injection e with e; omega)).trans HX3.out); have HR4 := Lib.hid ((hg4.block _ (hlt_of HR3.out) (fun e => by injection e with e; omega)).trans HR3.out); clear ht4 hg4))
        all_goals
          go_wp2_with fail
          exact ⟨⟨k + 1, by omega, by go_num, HT4.out, HX4.out, HR4.out, HB4.out⟩, by simp [intOf]; omega⟩
    · have hkm : k = m := by omega
      subst hkm
      obtain ⟨r0, r1, r2, r3, hre, k0, k1, k2, k3⟩ := tab_cells HTB.out (refsTo_len HV.out s (k := k) (by show k ≤ order.length; have := HL.out; omega))
      have HRE := Lib.hid hre
      have q0 := cell_of_row wr (w.heap.size + 1) 0 _ _ _ HRR.out
      have q1 := cell_of_row wr (w.heap.size + 1) 1 _ _ _ HRR.out
      have q2 := cell_of_row wr (w.heap.size + 1) 2 _ _ _ HRR.out
      have q3 := cell_of_row wr (w.heap.size + 1) 3 _ _ _ HRR.out
      have qf0 : wr.frozen? ⟨w.heap.size + 1, 0, none⟩ = false := frozen_of_row _ _ _ _ _ HRR.out
      have qf1 : wr.frozen? ⟨w.heap.size + 1, 1, none⟩ = false := frozen_of_row _ _ _ _ _ HRR.out
      have qf2 : wr.frozen? ⟨w.heap.size + 1, 2, none⟩ = false := frozen_of_row _ _ _ _ _ HRR.out
      have qf3 : wr.frozen? ⟨w.heap.size + 1, 3, none⟩ = false := frozen_of_row _ _ _ _ _ HRR.out
      clear hre
      go_wp2_with fail
      exact bodyPost_ret (v := .agg #[.int .i64 r0, .int .i64 r1, .int .i64 r2, .int .i64 r3]) (by simp [results, Try.results40, go_sem, q0, q1, q2, q3, qf0, qf1, qf2, qf3]) rfl ⟨by rw [HRE.out, r4_at], (((HB.out.setCell (by simp) _).setCell (by simp) _).setCell (by simp) _).setCell (by simp) _⟩

end Go.Proofs.Ytgbkjfhmbchiiaa
