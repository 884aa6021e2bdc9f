/-
  container/heap.down: a number sinks till the rest is a heap. Condition: lengths fit an int64.
-/
import Derived.Test.YtnaeglfochnikaaGreatHeapT
namespace Go.Proofs.YtnaeglfochnikaaGreat
set_option linter.unusedVariables false
set_option linter.unusedSimpArgs false
open Go.RowKit

@[local go_sem] theorem binOp_geqD (t : TypeId) (k : IntKind) (a b : Int) : binOp .geq t (.int k a) (.int k b) = pure (.bool (decide (b ≤ a))) := by simp [binOp, Op.intCmp]
/-- while a number sinks -/
def DownI (w wr : World) (base H g c n : Nat) (xs zs : List Int) : Prop :=
  HeapB wr base H (.slice (some ⟨g, 0, none⟩) zs.length c) zs ∧ HKeep w wr H (.slice (some ⟨g, 0, none⟩) xs.length c) ∧ zs.Perm xs ∧ ∀ k, n ≤ k → zs.getD k 0 = xs.getD k 0
section
variable {w wr w' : World} {base H g c n : Nat} {xs zs : List Int}
theorem DownI.drw {q : Nat} (h : DownI w wr base H g c n xs zs) (hw : w' = wr.drewN q) : DownI w w' base H g c n xs zs := by subst hw; exact h
theorem DownI.cell (h : DownI w wr base H g c n xs zs) : wr.cell? ⟨H, 0, none⟩ = some (.slice (some ⟨g, 0, none⟩) zs.length c) := h.1.cell
theorem DownI.own (h : DownI w wr base H g c n xs zs) : wr.ownsRow base 3 1 (.slice (some ⟨g, 0, none⟩) zs.length c) zs.length (zs.flatMap ci) := h.1.2.1
theorem DownI.ints (h : DownI w wr base H g c n xs zs) : Ints wr base wr.heap.size (some ⟨g, 0, none⟩) zs.length zs := by
  obtain ⟨A, c', e, -, -, hr⟩ := Rd.of_own h.1.2.1
  injection e with e
  subst e
  exact ⟨rfl, hr⟩
theorem HKeep.trans' {a b d : World} {v v' : Value} (h : HKeep a b H v) (k : HKeep b d H v') (e : v'.ownBlock = v.ownBlock) : HKeep a d H v := by
  obtain ⟨h1, h2, h3, h4, h5⟩ := h
  obtain ⟨k1, k2, k3, k4, k5⟩ := k
  exact ⟨k1.trans h1, k2.trans h2, k3.trans h3, Nat.le_trans h4 k4, fun q hq hqH hqv => (k5 q (Nat.lt_of_lt_of_le hq h4) hqH (by rw [e]; exact hqv)).trans (h5 q hq hqH hqv)⟩
theorem DownI.swap {i j q : Nat} (h : DownI w wr base H g c n xs zs) (hw : w' = ((wr.setCell ⟨g, i, none⟩ (.int .i64 (zs.getD j 0))).setCell ⟨g, j, none⟩ (.int .i64 (zs.getD i 0))).drewN q) (hi : i < zs.length) (hj : j < zs.length) (hin : i < n) (hjn : j < n) : DownI w w' base H g c n xs (swp zs i j) := by
  obtain ⟨h1, h2, h3, h4⟩ := h
  obtain ⟨k1, k2⟩ := h1.swap rfl hi hj q
  subst hw
  refine ⟨by rw [swp_len]; exact k1, h2.trans' k2 rfl, (swp_perm hi hj).trans h3, fun k hk => ?_⟩
  rw [swp_get hi hj, if_neg (by omega), if_neg (by omega)]
  exact h4 k hk
end
set_option maxRecDepth 100000 in
set_option maxHeartbeats 3200000 in
theorem heapDown_any (xs : List Int) (base H g c n : Nat) (w : World) (hn : n ≤ xs.length) (hx : xs.length ≤ 1000) (h0 : HeapX xs n 0) (hB : HeapB w base H (.slice (some ⟨g, 0, none⟩) xs.length c) xs) :
    Calls Tryz.prog 78 #[.iface 72 (.pointer (some ⟨H, 0, none⟩)), .int .i64 0, .int .i64 n] w fun e w' => (∃ y, e = .returned y) ∧ ∃ zs, HeapN zs n ∧ DownI w w' base H g c n xs zs := by
  have HX0 := Lib.hid h0
  have HD0 : DownI w w base H g c n xs xs := ⟨hB, ⟨rfl, rfl, rfl, Nat.le_refl _, fun _ _ _ _ => rfl⟩, List.Perm.refl _, fun _ _ => rfl⟩
  clear h0 hB
  go_enter Tryz.func78, Tryz.ntmps78
  go_wp2_with fail
  go_loopw [7] (fun i wr => ∃ (k : Nat) (zs : List Int), k ≤ n ∧ i = .int .i64 k ∧ n ≤ zs.length ∧ Hid (HeapX zs n k) ∧ DownI w wr base H g c n xs zs) (fun i _ => n - (intOf i).toNat)
  case atStart => exact ⟨0, xs, Nat.zero_le _, rfl, hn, HX0, HD0⟩
  case round =>
    obtain ⟨k, zs, hk, rfl, hnz, HX, HDr⟩ := hrel
    have hzl : zs.length ≤ 1000 := by rw [HDr.2.2.1.length_eq]; exact hx
    obtain ⟨j1, hj1e⟩ : ∃ j1, j1 = 2 * k + 1 := ⟨_, rfl⟩
    have h21 : 2 * (k : Int) + 1 = (j1 : Int) := by omega
    have HJ1 := Lib.hid hj1e
    have hj13 : j1 ≤ 3000 := by omega
    have hk1 : k ≤ 1000 := by omega
    have hkj : k < j1 := by omega
    have hjp1 : (j1 - 1) / 2 = k := by omega
    have hjp2 : (j1 + 1 - 1) / 2 = k := by omega
    have hJP := Lib.hid (And.intro hjp1 hjp2)
    clear hj1e hjp1 hjp2
    by_cases hA : j1 < n
    · have hA' : ¬ ((n : Int) ≤ (j1 : Int)) := by omega
      have h0j : ¬ ((j1 : Int) < 0) := by omega
      have hkn : k < n := by omega
      obtain ⟨j2, hj2e⟩ : ∃ j2, j2 = j1 + 1 := ⟨_, rfl⟩
      have h22 : (j1 : Int) + 1 = (j2 : Int) := by omega
      have hj12 : j1 < j2 := by omega
      have hj21 : j2 ≤ j1 + 1 := by omega
      clear hj2e
      by_cases hB2 : j2 < n
      · have hB2' : (j2 : Int) < (n : Int) := by omega
        have hcell_r := HDr.cell
        have hml_r := meth_less H _ wr hcell_r
        go_wp2_with fail
        refine (heapLess_any zs (some ⟨g, 0, none⟩) zs.length c j2 j1 wr base wr.heap.size (by omega) (by omega) (by omega) HDr.ints).mono ?_
        rintro e w5 ⟨rfl, q_w5, hw_w5⟩
        have HD_w5 := DownI.drw HDr hw_w5
        clear hw_w5
        by_cases hb : zs.getD j2 0 < zs.getD j1 0
        · rw [decide_eq_true hb]
          have hj1 : 1 ≤ j2 := by omega
          have hjn : j2 < n := by omega
          have hjp : (j2 - 1) / 2 = k := by omega
          have hjm : ∀ q, 1 ≤ q → q < n → (q - 1) / 2 = k → zs.getD j2 0 ≤ zs.getD q 0 := fun q h1 h2 h3 => by
            rcases (show q = j1 ∨ q = j2 by have := HJ1.out; omega) with rfl | rfl <;> omega
          clear hb
          have hcell_w5 := HD_w5.cell
          have hml_w5 := meth_less H _ w5 hcell_w5
          go_wp2_with fail
          refine (heapLess_any zs (some ⟨g, 0, none⟩) zs.length c j2 k w5 base w5.heap.size (by omega) (by omega) (by omega) HD_w5.ints).mono ?_
          rintro e w7 ⟨rfl, q_w7, hw_w7⟩
          have HD_w7 := DownI.drw HD_w5 hw_w7
          clear hw_w7
          by_cases hlt : zs.getD j2 0 < zs.getD k 0
          · rw [decide_eq_true hlt]
            have hcell_7 := HD_w7.cell
            have hms_7 := meth_swap H _ w7 hcell_7
            have HSK := Lib.hid (HX.out.sink hnz hj1 hjn hjp hlt hjm)
            clear hlt hjm
            go_wp2_with fail
            refine (heapSwap_any zs base g zs.length c k j2 w7 (by omega) (by omega) (by omega) HD_w7.own).mono ?_
            rintro e w8 ⟨⟨y8, rfl⟩, q8, hw8⟩
            have HD_w8 := DownI.swap HD_w7 hw8 (by omega) (by omega) hkn hjn
            clear hw8
            go_wp2_with fail
            go_roundw
            case rel => exact ⟨j2, swp zs k j2, by omega, rfl, by rw [swp_len]; exact hnz, HSK, HD_w8⟩
            case measure => simp [intOf]; omega
          · rw [decide_eq_false hlt]
            have HST := Lib.hid (HX.out.stop (fun q h1 h2 h3 => Int.le_trans (Int.not_lt.1 hlt) (hjm q h1 h2 h3)))
            clear hlt hjm
            go_wp2_with fail
            go_ret
            exact ⟨⟨_, rfl⟩, zs, HST.out, HD_w7⟩
        · rw [decide_eq_false hb]
          have hj1 : 1 ≤ j1 := by omega
          have hjn : j1 < n := hA
          have hjp : (j1 - 1) / 2 = k := by have := HJ1.out; omega
          have hjm : ∀ q, 1 ≤ q → q < n → (q - 1) / 2 = k → zs.getD j1 0 ≤ zs.getD q 0 := fun q h1 h2 h3 => by
            rcases (show q = j1 ∨ q = j2 by have := HJ1.out; omega) with rfl | rfl <;> omega
          clear hb
          have hcell_w5 := HD_w5.cell
          have hml_w5 := meth_less H _ w5 hcell_w5
          go_wp2_with fail
          refine (heapLess_any zs (some ⟨g, 0, none⟩) zs.length c j1 k w5 base w5.heap.size (by omega) (by omega) (by omega) HD_w5.ints).mono ?_
          rintro e w7 ⟨rfl, q_w7, hw_w7⟩
          have HD_w7 := DownI.drw HD_w5 hw_w7
          clear hw_w7
          by_cases hlt : zs.getD j1 0 < zs.getD k 0
          · rw [decide_eq_true hlt]
            have hcell_7 := HD_w7.cell
            have hms_7 := meth_swap H _ w7 hcell_7
            have HSK := Lib.hid (HX.out.sink hnz hj1 hjn hjp hlt hjm)
            clear hlt hjm
            go_wp2_with fail
            refine (heapSwap_any zs base g zs.length c k j1 w7 (by omega) (by omega) (by omega) HD_w7.own).mono ?_
            rintro e w8 ⟨⟨y8, rfl⟩, q8, hw8⟩
            have HD_w8 := DownI.swap HD_w7 hw8 (by omega) (by omega) hkn hjn
            clear hw8
            go_wp2_with fail
            go_roundw
            case rel => exact ⟨j1, swp zs k j1, by omega, rfl, by rw [swp_len]; exact hnz, HSK, HD_w8⟩
            case measure => simp [intOf]; omega
          · rw [decide_eq_false hlt]
            have HST := Lib.hid (HX.out.stop (fun q h1 h2 h3 => Int.le_trans (Int.not_lt.1 hlt) (hjm q h1 h2 h3)))
            clear hlt hjm
            go_wp2_with fail
            go_ret
            exact ⟨⟨_, rfl⟩, zs, HST.out, HD_w7⟩
      · have hB2' : (n : Int) ≤ (j2 : Int) := by omega
        have hj1 : 1 ≤ j1 := by omega
        have hjn : j1 < n := hA
        have hjp : (j1 - 1) / 2 = k := by have := HJ1.out; omega
        have hjm : ∀ q, 1 ≤ q → q < n → (q - 1) / 2 = k → zs.getD j1 0 ≤ zs.getD q 0 := fun q h1 h2 h3 => by
          obtain rfl : q = j1 := by have := HJ1.out; omega
          exact Int.le_refl _
        obtain ⟨w5, hw5⟩ : ∃ z, z = wr := ⟨_, rfl⟩
        subst hw5
        have HD_w5 := HDr
        have hcell_w5 := HD_w5.cell
        have hml_w5 := meth_less H _ w5 hcell_w5
        go_wp2_with fail
        refine (heapLess_any zs (some ⟨g, 0, none⟩) zs.length c j1 k w5 base w5.heap.size (by omega) (by omega) (by omega) HD_w5.ints).mono ?_
        rintro e w7 ⟨rfl, q_w7, hw_w7⟩
        have HD_w7 := DownI.drw HD_w5 hw_w7
        clear hw_w7
        by_cases hlt : zs.getD j1 0 < zs.getD k 0
        · rw [decide_eq_true hlt]
          have hcell_7 := HD_w7.cell
          have hms_7 := meth_swap H _ w7 hcell_7
          have HSK := Lib.hid (HX.out.sink hnz hj1 hjn hjp hlt hjm)
          clear hlt hjm
          go_wp2_with fail
          refine (heapSwap_any zs base g zs.length c k j1 w7 (by omega) (by omega) (by omega) HD_w7.own).mono ?_
          rintro e w8 ⟨⟨y8, rfl⟩, q8, hw8⟩
          have HD_w8 := DownI.swap HD_w7 hw8 (by omega) (by omega) hkn hjn
          clear hw8
          go_wp2_with fail
          go_roundw
          case rel => exact ⟨j1, swp zs k j1, by omega, rfl, by rw [swp_len]; exact hnz, HSK, HD_w8⟩
          case measure => simp [intOf]; omega
        · rw [decide_eq_false hlt]
          have HST := Lib.hid (HX.out.stop (fun q h1 h2 h3 => Int.le_trans (Int.not_lt.1 hlt) (hjm q h1 h2 h3)))
          clear hlt hjm
          go_wp2_with fail
          go_ret
          exact ⟨⟨_, rfl⟩, zs, HST.out, HD_w7⟩
    · have hA' : (n : Int) ≤ (j1 : Int) := by omega
      have HST := Lib.hid (HX.out.stop (fun q h1 h2 h3 => by exfalso; have := HJ1.out; omega))
      go_wp2_with fail
      go_ret
      exact ⟨⟨_, rfl⟩, zs, HST.out, HDr⟩

end Go.Proofs.YtnaeglfochnikaaGreat
