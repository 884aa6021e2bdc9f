/-
  The walks of PackSum, of the program and of the reference. Condition: lengths are small.
-/
import Derived.Test.YtegfdckejncbdaaPackT
namespace Go.Proofs.Ytegfdckejncbdaa
set_option linter.unusedVariables false
set_option linter.unusedSimpArgs false
open Go.RowKit

theorem packSum_no {ps : List PED} (h : packB ps = false) : packSum ps = -1 := by unfold packSum; rw [h]; rfl
theorem packSum_yes {ps : List PED} (h : packB ps = true) : packSum ps = sumP ps.length (packL ps) := by unfold packSum; rw [if_pos h]
theorem packL_len {ps : List PED} (h : packB ps = true) : (packL ps).length = ps.length := by rw [packL_yes h, packTo_len]
theorem sumP_tb {ps : List PED} (h : packB ps = true) (k : Nat) : 0 ≤ sumP ps.length ((packL ps).take k) ∧ sumP ps.length ((packL ps).take k) ≤ 990 := by
  have := (packB_and h).1
  exact sumP_bd _ _ (fun x hx => packL_obj x (List.mem_of_mem_take hx)) (by omega) (by omega)

set_option maxHeartbeats 1600000 in
set_option maxRecDepth 100000 in
theorem implSum_any (ps : List PED) (A : Option Addr) (n c : Nat) (w : World) (lo hi : Nat) (hh : hi ≤ w.heap.size) (hn : n ≤ 1048576) (hs : D.sz (dPackEntrys ps) ≤ 1048576) (h : D.rd w lo hi (dPackEntrys ps) (.slice A n c)) :
    Calls Try.prog 11 #[.slice A n c] w fun e w' => e = .returned (.int .i64 (packSum ps)) ∧ Below w.heap.size w w' := by
  have HI := Lib.hid h
  have HN := Lib.hid h.len.1
  clear h
  go_enter Try.func11, Try.ntmps11
  go_wp2_with fail
  refine (implPack_any ps A n c _ lo hi hh hn hs HI.out).mono ?_
  rintro e w1 ⟨hb1, B, m, d, ho, rfl⟩
  have HB1 := Lib.hid hb1
  have HO := Lib.hid ho.rd
  have HM := Lib.hid ho.rd.len.1
  have hws := hb1.size
  clear hb1 ho
  rcases hv : packB ps with _ | _
  · have hno := Lib.hid (packSum_no hv)
    go_wp2_with fail
    go_ret
    exact ⟨ret_int hno.out.symm, HB1.out⟩
  · have HV := Lib.hid hv
    have HY := Lib.hid (packSum_yes hv)
    have HL : Hid (m = n) := by show m = n; rw [HM.out, packL_len hv, HN.out]
    have hn16 : n ≤ 16 := by rw [HN.out]; exact (packB_and hv).1
    have hm16 : m ≤ 16 := by rw [HL.out]; exact hn16
    clear hv
    go_wp2_with fail
    go_loopw [5, 19] (fun q i wr => ∃ (k : Nat) (x : Int), k ≤ m ∧ i = .int .i64 k ∧ q = .int .i64 x ∧ 0 ≤ x ∧ x ≤ 990 ∧ Hid (x = sumP ps.length ((packL ps).take k)) ∧ Below w.heap.size w wr ∧ Below w1.heap.size w1 wr) (fun _ i _ => m - (intOf i).toNat)
    case atStart => exact ⟨0, n, Nat.zero_le _, rfl, rfl, by omega, by omega, by show _ = _; rw [HN.out]; rfl, HB1.out, Below.refl _ _⟩
    case round =>
      obtain ⟨k, x, hk, rfl, rfl, hx0, hx1, HX, hb, hbq⟩ := hrel
      have HB := Lib.hid hb
      have HBQ := Lib.hid hbq
      have hwsz := hb.size
      have hwq := hbq.size
      clear hb hbq
      by_cases hlt : k < m
      · obtain ⟨b, o, hl, A1, n1, c1, rfl, _, hbh, hc0, hc1, hc2, ⟨-, -, hr1⟩, ht⟩ := rd_Object (HO.out.below HBQ.out (Nat.le_refl _)) hlt
        have hob := Lib.hid (packL_obj _ (List.getElem_mem hl))
        have hbd := sumP_tb HV.out (k + 1)
        have HT := Lib.hid (sumP_take hl (ps.length : Int))
        have hid := idB_bd hob.out
        have HR1 := Lib.hid hr1
        rw [HT.out, ← HX.out] at hbd
        have hbd1 := hbd.1
        have hbd2 := hbd.2
        have hid1 := hid.1
        have hid2 := hid.2
        clear hr1 hbd hid
        go_wp2_with fail
        refine (objId_any (packL ps)[k].kind (packL ps)[k].links (packL ps)[k].text A1 n1 c1 _ w.heap.size w1.heap.size (by simp; omega) hob.out (HR1.out.alloc (by omega) _)).mono ?_
        rintro e w2 ⟨rfl, hb2⟩
        have HB2 := Lib.hid (bel_tr (HB.out.alloc hwsz _) (Nat.le_refl _) hb2)
        have HBQ2 := Lib.hid (bel_tr (HBQ.out.alloc hwq _) (Nat.le_refl _) hb2)
        clear hb2
        obtain ⟨y, hy⟩ : ∃ y, y = idB (packL ps)[k] := ⟨_, rfl⟩
        have hyy : idB ⟨(packL ps)[k].kind, (packL ps)[k].links, (packL ps)[k].text⟩ = y := by rw [hy]
        rw [hyy]
        rw [← hy] at hid1 hid2 hbd1 hbd2
        have HYY := Lib.hid hy
        clear hy hyy
        go_wp2_with fail
        go_roundw
        case rel => exact ⟨k + 1, _, by omega, by go_num, rfl, hbd1, hbd2, by show _ = _; rw [HT.out, ← HX.out, ← HYY.out], HB2.out, HBQ2.out⟩
        case measure => simp [intOf]; omega
      · have hkn : k = m := by omega
        subst hkn
        have HX2 : Hid (x = packSum ps) := by
          show x = _
          rw [HY.out, HX.out, List.take_of_length_le (by rw [← HM.out]; exact Nat.le_refl _)]
        go_wp2_with fail
        go_ret
        exact ⟨ret_int HX2.out, HB.out⟩

set_option maxHeartbeats 1600000 in
set_option maxRecDepth 100000 in
theorem specSum_any (ps : List PED) (A : Option Addr) (n c : Nat) (w : World) (lo hi : Nat) (hh : hi ≤ w.heap.size) (hn : n ≤ 1048576) (hs : D.sz (dPackEntrys ps) ≤ 1048576) (h : D.rd w lo hi (dPackEntrys ps) (.slice A n c)) :
    Calls Try.prog 9 #[.slice A n c] w fun e w' => e = .returned (.int .i64 (packSum ps)) ∧ Below w.heap.size w w' := by
  have HI := Lib.hid h
  have HN := Lib.hid h.len.1
  clear h
  go_enter Try.func9, Try.ntmps9
  go_wp2_with fail
  refine (specPack_any ps A n c _ lo hi hh hn hs HI.out).mono ?_
  rintro e w1 ⟨hb1, B, m, d, ho, rfl⟩
  have HB1 := Lib.hid hb1
  have HO := Lib.hid ho.rd
  have HM := Lib.hid ho.rd.len.1
  have hws := hb1.size
  clear hb1 ho
  rcases hv : packB ps with _ | _
  · have hno := Lib.hid (packSum_no hv)
    go_wp2_with fail
    go_ret
    exact ⟨ret_int hno.out.symm, HB1.out⟩
  · have HV := Lib.hid hv
    have HY := Lib.hid (packSum_yes hv)
    have HL : Hid (m = n) := by show m = n; rw [HM.out, packL_len hv, HN.out]
    have hn16 : n ≤ 16 := by rw [HN.out]; exact (packB_and hv).1
    have hm16 : m ≤ 16 := by rw [HL.out]; exact hn16
    clear hv
    go_wp2_with fail
    go_loopw [5, 6] (fun q i wr => ∃ (k : Nat) (x : Int), k ≤ m ∧ i = .int .i64 k ∧ q = .int .i64 x ∧ 0 ≤ x ∧ x ≤ 990 ∧ Hid (x = sumP ps.length ((packL ps).take k)) ∧ Below w.heap.size w wr ∧ Below w1.heap.size w1 wr) (fun _ i _ => m - (intOf i).toNat)
    case atStart => exact ⟨0, m, Nat.zero_le _, rfl, rfl, by omega, by omega, by show _ = _; rw [HL.out, HN.out]; rfl, HB1.out, Below.refl _ _⟩
    case round =>
      obtain ⟨k, x, hk, rfl, rfl, hx0, hx1, HX, hb, hbq⟩ := hrel
      have HB := Lib.hid hb
      have HBQ := Lib.hid hbq
      have hwsz := hb.size
      have hwq := hbq.size
      clear hb hbq
      by_cases hlt : k < m
      · obtain ⟨b, o, hl, A1, n1, c1, rfl, _, hbh, hc0, hc1, hc2, ⟨-, -, hr1⟩, ht⟩ := rd_Object (HO.out.below HBQ.out (Nat.le_refl _)) hlt
        have hob := Lib.hid (packL_obj _ (List.getElem_mem hl))
        have hbd := sumP_tb HV.out (k + 1)
        have HT := Lib.hid (sumP_take hl (ps.length : Int))
        have hid := idB_bd hob.out
        have HR1 := Lib.hid hr1
        rw [HT.out, ← HX.out] at hbd
        have hbd1 := hbd.1
        have hbd2 := hbd.2
        have hid1 := hid.1
        have hid2 := hid.2
        clear hr1 hbd hid
        go_wp2_with fail
        refine (l1Of_any (packL ps)[k].kind (packL ps)[k].links (packL ps)[k].text A1 n1 c1 _ w.heap.size w1.heap.size (by omega) hob.out HR1.out).mono ?_
        rintro e w2 ⟨rfl, hb2⟩
        have HB2 := Lib.hid (bel_tr HB.out (Nat.le_refl _) hb2)
        have HBQ2 := Lib.hid (bel_tr HBQ.out (Nat.le_refl _) hb2)
        clear hb2
        obtain ⟨y, hy⟩ : ∃ y, y = idB (packL ps)[k] := ⟨_, rfl⟩
        have hyy : idB ⟨(packL ps)[k].kind, (packL ps)[k].links, (packL ps)[k].text⟩ = y := by rw [hy]
        rw [hyy]
        rw [← hy] at hid1 hid2 hbd1 hbd2
        have HYY := Lib.hid hy
        clear hy hyy
        go_wp2_with fail
        go_roundw
        case rel => exact ⟨k + 1, (613 * x + y + 1) % 991, by omega, by go_num, rfl, by rw [Int.mul_comm]; exact hbd1, by rw [Int.mul_comm]; exact hbd2, by show _ = _; rw [HT.out, ← HX.out, ← HYY.out, Int.mul_comm 613 x], HB2.out, HBQ2.out⟩
        case measure => simp [intOf]; omega
      · have hkn : k = m := by omega
        subst hkn
        have HX2 : Hid (x = packSum ps) := by
          show x = _
          rw [HY.out, HX.out, List.take_of_length_le (by rw [← HM.out]; exact Nat.le_refl _)]
        go_wp2_with fail
        go_ret
        exact ⟨ret_int HX2.out, HB.out⟩

end Go.Proofs.Ytegfdckejncbdaa
