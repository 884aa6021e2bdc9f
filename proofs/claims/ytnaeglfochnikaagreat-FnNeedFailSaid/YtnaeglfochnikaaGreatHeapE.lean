/-
  container/heap.Pop. Condition: the heap is not empty; lengths fit an int64.
-/
import Derived.Test.YtnaeglfochnikaaGreatHeapD
namespace Go.Proofs.YtnaeglfochnikaaGreat
set_option linter.unusedVariables false
set_option linter.unusedSimpArgs false
open Go.RowKit

set_option maxRecDepth 100000 in
set_option maxHeartbeats 3200000 in
theorem heapPop_any (xs : List Int) (base H g c n : Nat) (w : World) (hl : xs.length = n + 1) (hn : n ≤ 990) (hx : HeapN xs xs.length) (h : HeapB w base H (.slice (some ⟨g, 0, none⟩) xs.length c) xs) :
    Calls Tryz.prog 48 #[.iface 72 (.pointer (some ⟨H, 0, none⟩))] w fun e w' => e = .returned (.iface 3 (.int .i64 (xs.getD 0 0))) ∧ ∃ zs v', HeapB w' base H v' (zs.take n) ∧ HKeep w w' H (.slice (some ⟨g, 0, none⟩) xs.length c) ∧ v'.ownBlock = some g ∧
      zs.Perm xs ∧ zs.length = n + 1 ∧ zs.getD n 0 = xs.getD 0 0 ∧ HeapN zs n := by
  have HB := Lib.hid h
  have HX := Lib.hid hx
  have hcell := h.cell
  have hml := meth_len H _ w hcell
  have hms := meth_swap H _ w hcell
  have HL := Lib.hid hl
  have hl' : n + 1 = xs.length := hl.symm
  clear h hx hl
  go_enter Tryz.func48, Tryz.ntmps48
  go_wp2_with fail
  refine (heapLen_any (some ⟨g, 0, none⟩) xs.length c w).mono ?_
  rintro e w1 ⟨rfl, rfl⟩
  have hln : (xs.length : Int) - 1 = (n : Int) := by omega
  clear hml
  go_wp2_with fail
  refine (heapSwap_any xs base g xs.length c 0 n w (by omega) (by omega) (by omega) HB.out.2.1).mono ?_
  rintro e w2 ⟨⟨y2, rfl⟩, q, hw2⟩
  have hsw := HB.out.swap rfl (by omega : 0 < xs.length) (by omega : n < xs.length) q
  rw [← hw2] at hsw
  have hcut := HeapN.cut (n := n) (by rw [hl']; exact HX.out) HL.out
  have hsl : (swp xs 0 n).length = xs.length := swp_len _ _ _
  have HB2 : Hid (HeapB w2 base H (.slice (some ⟨g, 0, none⟩) (swp xs 0 n).length c) (swp xs 0 n)) := Lib.hid (by rw [hsl]; exact hsw.1)
  have HK2 := Lib.hid hsw.2
  have HC := Lib.hid hcut
  clear hsw hcut hw2 hms hcell
  go_wp2_with fail
  refine (heapDown_any (swp xs 0 n) base H g c n w2 (by omega) (by omega) HC.out HB2.out).mono ?_
  rintro e w3 ⟨⟨y3, rfl⟩, zs, hzn, hd⟩
  have hzl : zs.length = n + 1 := by rw [hd.2.2.1.length_eq, hsl, HL.out]
  have HD := Lib.hid hd
  have HZ := Lib.hid hzn
  have hmp := meth_pop H w3
  have hz0 : zs.getD n 0 = xs.getD 0 0 := by rw [hd.2.2.2 n (Nat.le_refl _), swp_get (by omega) (by omega), if_pos rfl]
  have HZ0 := Lib.hid hz0
  clear hd hzn hz0
  go_wp2_with fail
  refine (heapPopM_any zs base H n _ w3 hzl (by omega) HD.out.1).mono ?_
  rintro e w4 ⟨rfl, v4, hb4, hk4, hat⟩
  rw [HZ0.out]
  go_wp2_with fail
  go_ret
  refine ⟨rfl, zs, v4, hb4, ?_, hat, HD.out.2.2.1.trans (swp_perm (by omega) (by omega)), hzl, HZ0.out, HZ.out⟩
  have h1 : HKeep w w3 H (.slice (some ⟨g, 0, none⟩) xs.length c) := HK2.out.trans' HD.out.2.1 rfl
  exact h1.trans' hk4 rfl

end Go.Proofs.YtnaeglfochnikaaGreat
