/-
  The walk of the reference's l22Refs: the refs of a shard behind the first transactions of the order. Condition: the coordinator is valid, the number is one of its places.
-/
import Derived.Test.YtgbkjfhmbchiiaaM12
import Derived.Test.YtgbkjfhmbchiiaaM10
import Derived.Test.YtgbkjfhmbchiiaaM15
import Derived.Test.YtgbkjfhmbchiiaaM9
namespace Go.Proofs.Ytgbkjfhmbchiiaa
set_option linter.unusedVariables false
set_option linter.unusedSimpArgs false
open Go.RowKit

theorem stepR_yes' {ts : List TxnD} {s x : Int} {refs : List Int} (hl : x.toNat < ts.length) (h : 0 ≤ partIx ts[x.toNat].parts s) (hp : (partIx ts[x.toNat].parts s).toNat < ts[x.toNat].parts.length) : stepR ts s refs x = setR refs ts[x.toNat].parts[(partIx ts[x.toNat].parts s).toNat].us := by
  unfold stepR updsOf
  rw [List.getD_eq_getElem?_getD, List.getElem?_eq_getElem hl, Option.getD_some, if_pos h, List.getD_eq_getElem?_getD, List.getElem?_eq_getElem hp]; rfl
theorem stepR_no' {ts : List TxnD} {s x : Int} {refs : List Int} (hl : x.toNat < ts.length) (h : ¬ 0 ≤ partIx ts[x.toNat].parts s) : stepR ts s refs x = refs := by
  unfold stepR
  rw [List.getD_eq_getElem?_getD, List.getElem?_eq_getElem hl, Option.getD_some, if_neg h]

theorem field_refs (B1 : Option Addr) (d1 : Nat) (B2 : Option Addr) (d2 : Nat) (w : World) : (Instr.field 90 (.agg #[.slice B1 4 d1, .slice B2 4 d2]) 0).run Try.prog w = .ok (.slice B1 4 d1) w := by kernel_rfl

set_option maxHeartbeats 3200000 in
set_option maxRecDepth 100000 in
theorem l22Refs_any (txns : List TxnD) (order : List Int) (s : Int) (m : Nat) (A0 : Option Addr) (n0 c0 : Nat) (A1 : Option Addr) (n1 c1 : Nat) (w : World) (lo hi : Nat) (hh : hi ≤ w.heap.size) (hr0 : D.rd w lo hi (dTxns txns) (.slice A0 n0 c0)) (hr1 : D.rd w lo hi (intsD order) (.slice A1 n1 c1)) (hv : coordB ⟨txns, order⟩ = true) (hm : m ≤ n1) :
    Calls Try.prog 43 #[.agg #[.slice A0 n0 c0, .slice A1 n1 c1], .int .i64 s, .int .i64 (m : Int)] w fun e w' => ∃ (B : Option Addr) (d : Nat), e = .returned (.slice B 4 d) ∧ Ints w' w.heap.size w'.heap.size B 4 (refsTo txns s order m) ∧ Below w.heap.size w w' := by
  have HB0 : Hid (Below w.heap.size w (w.alloc (.cells #[.slice A0 n0 c0, .slice A1 n1 c1] 26))) := (Below.refl _ _).alloc (Nat.le_refl _) _
  have HX0 : Hid ((w.alloc (.cells #[.slice A0 n0 c0, .slice A1 n1 c1] 26)).heap[w.heap.size]? = some (.cells #[.slice A0 n0 c0, .slice A1 n1 c1] 26 (0, 0))) := Lib.hid (heap_alloc_new w _)
  have HT := Lib.hid hr0
  have HO := Lib.hid hr1.ints
  have HL := Lib.hid hr1.ints.1
  have HN0 := Lib.hid hr0.len.1
  have HV := Lib.hid hv
  have hm63 : n1 ≤ 9223372036854775807 := by have := hr1.len; omega
  clear hr0 hr1 hv
  go_enter Try.func43, Try.ntmps43
  go_wp2_with fail
  refine (l21Begin_any _).mono ?_
  rintro e w1 ⟨B1, d1, B2, d2, rfl, hst, hb1⟩
  have HB1 := Lib.hid (bel_tr HB0.out (Nat.le_refl _) hb1)
  have HX1 := Lib.hid ((hb1.block _ (hlt_of HX0.out)).trans HX0.out)
  have HI1 : Hid (Ints w1 w.heap.size w1.heap.size B1 4 (refsTo txns s order 0)) := by
    rw [refsTo_zero]
    exact Lib.hid (Fl.more hst.1 (by simp) (Nat.le_refl _))
  have hfr := field_refs B1 d1 B2 d2 w1
  clear hst hb1
  go_wp2_with fail
  clear hfr
  go_loopw [7, 8] (fun v i wr => ∃ (k : Nat) (B : Option Addr) (d : Nat), k ≤ m ∧ i = .int .i64 k ∧ v = .slice B 4 d ∧ Hid (Ints wr w.heap.size wr.heap.size B 4 (refsTo txns s order k)) ∧ Hid (wr.heap[w.heap.size]? = some (.cells #[.slice A0 n0 c0, .slice A1 n1 c1] 26 (0, 0))) ∧ Below w.heap.size w wr) (fun _ i _ => m - (intOf i).toNat)
  case atStart => exact ⟨0, B1, d1, Nat.zero_le _, rfl, rfl, HI1.out, HX1.out, HB1.out⟩
  case round =>
    obtain ⟨k, B, d, hk, rfl, rfl, HIN, HX, hb⟩ := hrel
    have HB := Lib.hid hb
    have hwsz : w.heap.size < wr.heap.size := hlt_of HX.out
    have b0 := cell_of_row wr w.heap.size 0 _ _ _ HX.out
    have b1 := cell_of_row wr w.heap.size 1 _ _ _ HX.out
    clear hb HI1 HX1 HB1
    by_cases hlt : k < m
    · obtain ⟨bo, oo, hlo, rfl, _, hboh, hco⟩ := (HO.out.below HB.out hh).int (k := k) (by omega)
      have hot := ord_txn HV.out (k := k) hlo
      dsimp only at hot
      obtain ⟨hx0, hx1, hx2⟩ := hot
      have hx3 : order[k].toNat < n0 := by have := HN0.out; omega
      have hx4 : order[k] < (n0 : Int) := by omega
      have hkn : k < n1 := by omega
      have hkn2 : (k : Int) < (n1 : Int) := by omega
      obtain ⟨b, o, hl, A2, n2, c2, A3, n3, c3, rfl, _, hbh, hc0, hc1', hc2, ⟨hn2, hm2, hr2⟩, -⟩ := rd_Txn (HT.out.below HB.out hh) (k := order[k].toNat) hx3
      have hps : partsB txns[order[k].toNat].parts = true := by
        rw [List.getD_eq_getElem?_getD, List.getElem?_eq_getElem hl] at hx2
        exact hx2
      have HPS := Lib.hid hps
      have hhr : hi ≤ wr.heap.size := by omega
      have hbw : b < wr.heap.size := by omega
      have hbow : bo < wr.heap.size := by omega
      have HP := Lib.hid ((hr2.drew).alloc (by show hi ≤ wr.heap.size; exact hhr) (.cells #[.slice A2 n2 c2, .slice A3 n3 c3, .int .i64 txns[order[k].toNat].dec] 46))
      have HST := Lib.hid (refsTo_succ (ts := txns) (s := s) hlo)
      have HRL := Lib.hid (refsTo_len HV.out s (k := k) (by show k ≤ order.length; omega))
      clear hr2 hps hx2
      go_wp2_with fail
      go_upto_region 5 with (fail)
      go_cut [9] (fun v wx => v = .pointer (some ⟨wr.heap.size, 0, none⟩) ∧ wx = (wr.alloc (.cells #[.slice A2 n2 c2, .slice A3 n3 c3, .int .i64 txns[order[k].toNat].dec] 46)).drew)
      case first =>
        go_region_with (fail)
        all_goals (go_wp2_with fail; go_meet; exact ⟨rfl, rfl⟩)
      case rest =>
        obtain ⟨rfl, rfl⟩ := hcut
        have hdr : (wr.alloc (.cells #[.slice A2 n2 c2, .slice A3 n3 c3, .int .i64 txns[order[k].toNat].dec] 46)).drew = wr.drew.alloc (.cells #[.slice A2 n2 c2, .slice A3 n3 c3, .int .i64 txns[order[k].toNat].dec] 46) := rfl
        obtain ⟨w2, hw2⟩ : ∃ w2, w2 = (wr.alloc (.cells #[.slice A2 n2 c2, .slice A3 n3 c3, .int .i64 txns[order[k].toNat].dec] 46)).drew := ⟨_, rfl⟩
        have HY2 : Hid (w2.heap[wr.heap.size]? = some (.cells #[.slice A2 n2 c2, .slice A3 n3 c3, .int .i64 txns[order[k].toNat].dec] 46 (0, 0))) := by rw [hw2]; exact Lib.hid (heap_alloc_new wr _)
        have hb2 : Below wr.heap.size wr w2 := by rw [hw2]; exact ((Below.refl _ _).alloc (Nat.le_refl _) _).drew
        have HP2 : Hid (D.rd w2 lo hi (dParts txns[order[k].toNat].parts) (.slice A2 n2 c2)) := by rw [hw2, hdr]; exact HP.out
        have HX2 := Lib.hid ((hb2.block _ hwsz).trans HX.out)
        have HB2 := Lib.hid (bel_tr HB.out (Nat.le_refl _) hb2)
        have HI2 := Lib.hid ((HIN.out.below hb2 (Nat.le_refl _)).more (Nat.le_refl _) hb2.size)
        have hzy : wr.heap.size < w2.heap.size := hlt_of HY2.out
        have e0 := cell_of_row w2 wr.heap.size 0 _ _ _ HY2.out
        have hlt2 := partIx_lt txns[order[k].toNat].parts s
        have hh2 : hi ≤ w2.heap.size := by omega
        rw [← hw2]
        clear hw2 hdr hb2 HP
        go_wp2_with fail
        refine (l22Shard_any s txns[order[k].toNat].parts A2 n2 c2 w2 lo hi HP2.out).mono ?_
        rintro e w3 ⟨rfl, rfl⟩
        obtain ⟨x, hx⟩ : ∃ x, partIx txns[order[k].toNat].parts s = x := ⟨_, rfl⟩
        have HXX := Lib.hid hx
        rw [hx] at hlt2 ⊢
        clear hx
        by_cases hxn : x < 0
        · have HS : Hid (refsTo txns s order (k + 1) = refsTo txns s order k) := by
            show _ = _
            rw [HST.out, stepR_no' hl (by rw [HXX.out]; omega)]
          have HI3 : Hid (Ints w2 w.heap.size w2.heap.size B 4 (refsTo txns s order (k + 1))) := by
            show Fl _ _ _ _ _ _ _
            rw [HS.out]; exact HI2.out
          have hxd : decide (0 ≤ x) = false := decide_eq_false (by omega)
          go_wp2_with fail
          exact ⟨⟨k + 1, B, d, by omega, by go_num, rfl, HI3.out, HX2.out, HB2.out⟩, by simp [intOf]; omega⟩
        · have hx0' : 0 ≤ x := by omega
          have hxd : decide (0 ≤ x) = true := decide_eq_true hx0'
          have hxl : x.toNat < n2 := by have := HP2.out.len; unfold dParts at this; omega
          have hxl2 : x < (n2 : Int) := by omega
          obtain ⟨bp, op, hlp, A4, n4, c4, rfl, _, hbph, hp0, hp1, ⟨hn4, hm4, hr4⟩⟩ := rd_Part HP2.out hxl
          have HU : Hid (Fl cu w2 lo hi A4 n4 txns[order[k].toNat].parts[x.toNat].us) := Lib.hid hr4.upds
          have HUR := Lib.hid (upds_refs (partsB_upds HPS.out (List.getElem_mem hlp)))
          have HS : Hid (refsTo txns s order (k + 1) = setR (refsTo txns s order k) txns[order[k].toNat].parts[x.toNat].us) := by
            show _ = _
            rw [HST.out, stepR_yes' hl (by rw [HXX.out]; exact hx0') (by rw [HXX.out]; exact hlp)]
            simp only [HXX.out]
          have hbpw : bp < w2.heap.size := by omega
          clear hr4 hxn
          go_wp2_with fail
          refine (specSet_any B A4 d n4 c4 (refsTo txns s order k) txns[order[k].toNat].parts[x.toNat].us w2 _ _ lo hi (Nat.le_refl _) hh2 (by omega) HUR.out HI2.out HU.out).mono ?_
          rintro e w4 ⟨v4, hown4, hb4, rfl⟩
          obtain ⟨B4, d4, rfl, -, -, hrd4⟩ := Rd.of_own hown4
          have HB4 := Lib.hid (bel_tr HB2.out (Nat.le_refl _) hb4)
          have HX4 := Lib.hid ((hb4.block _ (hlt_of HX2.out)).trans HX2.out)
          have HI4 : Hid (Ints w4 w.heap.size w4.heap.size B4 4 (refsTo txns s order (k + 1))) := by
            show Fl _ _ _ _ _ _ _
            rw [HS.out]
            refine ⟨?_, hrd4.more (by have := HB2.out.size; omega) (Nat.le_refl _)⟩
            rw [setR_len, HRL.out]
          clear hown4 hb4 hrd4
          go_wp2_with fail
          exact ⟨⟨k + 1, B4, d4, by omega, by go_num, rfl, HI4.out, HX4.out, HB4.out⟩, by simp [intOf]; omega⟩
    · have hkm : k = m := by omega
      subst hkm
      go_wp2_with fail
      go_ret
      exact ⟨B, d, rfl, HIN.out, HB.out⟩

end Go.Proofs.Ytgbkjfhmbchiiaa
