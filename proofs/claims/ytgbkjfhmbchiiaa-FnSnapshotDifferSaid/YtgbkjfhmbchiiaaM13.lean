/-
  The walks of l92Of, DrawCoordinatorTimeout and DrawSnapshotFirst. Condition: the code is a row of bytes.
  The walks of slices.Equal and slices.Sort at slices of ints: the second over a row of the call's own. Condition: few elements.
  The walk of the program's CoordinatorValid: whether a coordinator is valid. Condition: lengths are small, the votes are ints.
  The walks of SnapshotFirst, of the program and of the reference: the place of a transaction. Condition: lengths are small, the votes are ints.
-/
import Derived.Test.YtgbkjfhmbchiiaaDrawC
import Derived.Test.YtgbkjfhmbchiiaaClone
import Derived.Test.YtgbkjfhmbchiiaaShelf
import Derived.Sort.OwnSortedInts
import Derived.Deep.DeepCutAuto
import Derived.Test.YtgbkjfhmbchiiaaM9
import Derived.Test.YtgbkjfhmbchiiaaM2
namespace Go.Proofs.Ytgbkjfhmbchiiaa
set_option linter.unusedVariables false
set_option linter.unusedSimpArgs false
open Go.RowKit

set_option maxHeartbeats 800000 in
set_option maxRecDepth 100000 in
theorem l92Of_any (g K : Nat) (A0 : Option Addr) (n0 c0 : Nat) (A1 : Option Addr) (n1 c1 : Nat) (w : World) (hK : K ≤ 1000000000 - 1000) (hn : n0 ≤ 12) (h : Rdr w g K) :
    Calls Try.prog 45 #[.pointer (some ⟨g, 0, none⟩), .agg #[.slice A0 n0 c0, .slice A1 n1 c1]] w fun e w' => ∃ r : Int, DrawT w w' g (K + 3) ∧ e = .returned (.int .i64 r) := by
  have hgw := h.lt
  have HR := Lib.hid ((DrawT.refl h).alloc (.cells #[.slice A0 n0 c0, .slice A1 n1 c1] 26))
  clear h
  go_enter Try.func45, Try.ntmps45
  go_wp2_with fail
  all_goals
    refine (pick_any g K _ _ (by omega) HR.out.2).mono ?_
    rintro e w1 ⟨r1, hr1, hR1, hg1, -, rfl⟩
    have HR1 := Lib.hid (HR.out.step hg1 hR1)
    have hr10 := hr1.1
    have hr11 := hr1.2 (by omega)
    clear hR1 hg1 hr1 HR
    go_wp2_with fail
    refine (pick_any g (K + 1) 20 _ (by omega) HR1.out.2).mono ?_
    rintro e w2 ⟨r2, hr2, hR2, hg2, -, rfl⟩
    have HR2 := Lib.hid (HR1.out.step hg2 hR2)
    have hr20 := hr2.1
    have hr21 := hr2.2 (by omega)
    clear hR2 hg2 hr2 HR1
    go_wp2_with fail
    refine (pick_any g (K + 1 + 1) 20 _ (by omega) HR2.out.2).mono ?_
    rintro e w3 ⟨r3, hr3, hR3, hg3, -, rfl⟩
    have HR3 := Lib.hid (HR2.out.step hg3 hR3)
    have hr30 := hr3.1
    have hr31 := hr3.2 (by omega)
    clear hR3 hg3 hr3 HR2
    go_wp2_with fail
    go_ret
    exact ⟨_, HR3.out, rfl⟩

/-- a drawn coordinator and a number, handed back -/
def DrawnC (w : World) (e : Ending) (w' : World) : Prop := ∃ (A0 : Option Addr) (c0 : Nat) (A1 : Option Addr) (c1 : Nat) (ts : List TxnD) (os : List Int) (r : Int), CoO w' (w.heap.size + 1) w.heap.size (.slice A0 ts.length c0) ts (.slice A1 os.length c1) os ∧ DrB 13 ts os ∧ Below w.heap.size w w' ∧ e = .returned (.tuple #[.agg #[.slice A0 ts.length c0, .slice A1 os.length c1], .int .i64 r])

theorem isRow_below {k : IntKind} {w w' : World} {C : Nat} {a : Option Addr} {len cap : Nat} {zs : List Int} (h : IsRow k w a len cap zs) (hb : Below C w w') (hC : w.heap.size ≤ C) : IsRow k w' a len cap zs := by
  rcases h with h | ⟨x, rfl, h1, h2, hz, hc, hw⟩
  · exact .inl h
  · refine .inr ⟨x, rfl, h1, h2, hz, fun i hi => ?_, hw⟩
    have := hc i hi
    exact (hb.cell (Nat.lt_of_lt_of_le (World.block_lt_of_cell? w _ this) hC)).trans this
theorem below_dr {w w1 w2 : World} {g K : Nat} (h : Below w.heap.size w w1) (h2 : DrawT w1 w2 g K) (hg : w.heap.size ≤ g) : Below w.heap.size w w2 := h.grown h2.1 (by have := h.size; omega) (fun q e => by injection e with e; omega)

set_option maxHeartbeats 1600000 in
set_option maxRecDepth 100000 in
theorem drawTimeout_any (A : Option Addr) (n c : Nat) (zs : List Int) (w : World) (h : IsRow .u8 w A n c zs) :
    Calls Try.prog 26 #[.slice A n c] w fun e w' => DrawnC w e w' := by
  have HI := Lib.hid (isRow_below h ((Below.refl _ _).alloc (Nat.le_refl _) (.cells #[.slice none 0 0, .slice none 0 0] 26)) (Nat.le_refl _))
  have hnew := Lib.hid (heap_alloc_new w (.cells #[.slice none 0 0, .slice none 0 0] 26))
  clear h
  go_enter Try.func26, Try.ntmps26
  go_wp2_with fail
  refine (l6Open_any _ _ _ zs _ HI.out).mono ?_
  rintro e w1 ⟨hR1, hb1, hs1, he⟩
  have hsz : (w.alloc (.cells #[.slice none 0 0, .slice none 0 0] 26)).heap.size = w.heap.size + 1 := by simp
  rw [hsz] at hR1 hb1 hs1 he
  subst he
  have HR1 := Lib.hid hR1
  have HB1 : Hid (Below w.heap.size w w1) := ((Below.refl _ _).alloc (Nat.le_refl _) _).trans (hb1.mono (by simp))
  have HX1 : Hid (w1.heap[w.heap.size]? = some (.cells #[.slice none 0 0, .slice none 0 0] 26 (0, 0))) := (hb1.block _ (by omega)).trans hnew.out
  have hs1' : w.heap.size + 2 ≤ w1.heap.size := by omega
  clear hR1 hb1 hs1 hsz
  go_wp2_with fail
  refine (l92Coordinator_any (w.heap.size + 1) 0 _ (by omega) HR1.out).mono ?_
  rintro e w2 ⟨v1, v2, ts, os, hco, hdb, hT2, rfl⟩
  obtain ⟨A0, c0, A1, c1, rfl, rfl⟩ := hco.vals
  have HDB := Lib.hid hdb
  have ht12 : ts.length ≤ 12 := hdb.1
  have HB2 := Lib.hid (below_dr HB1.out hT2 (by omega))
  have HX2 := Lib.hid ((hT2.1.block _ (by omega) (fun e => by injection e with e; omega)).trans HX1.out)
  obtain ⟨y, hy⟩ : ∃ y, y = w2.heap.size := ⟨_, rfl⟩
  have hwy : w.heap.size + 1 < y := by have := hT2.1.size; omega
  obtain ⟨w3, hw3⟩ : ∃ w3, w3 = w2.alloc (.cells #[.slice A0 ts.length c0, .slice A1 os.length c1] 26) := ⟨_, rfl⟩
  have hb3 : Below w2.heap.size w2 w3 := by rw [hw3]; exact (Below.refl _ _).alloc (Nat.le_refl _) _
  have HY3 : Hid (w3.heap[y]? = some (.cells #[.slice A0 ts.length c0, .slice A1 os.length c1] 26 (0, 0))) := by rw [hw3, hy]; exact Lib.hid (heap_alloc_new w2 _)
  have HB3 := Lib.hid (bel_tr HB2.out (Nat.le_refl _) hb3)
  have HX3 := Lib.hid ((hb3.block _ (by omega)).trans HX2.out)
  have HCO3 := Lib.hid (hco.fresh hb3)
  have HR3 : Hid (Rdr w3 (w.heap.size + 1) 30000) := by rw [hw3]; exact Lib.hid (hT2.2.alloc _)
  have hb1s : w.heap.size + 1 < w1.heap.size := by omega
  clear hco hdb hT2 HB2 HX2 HB1 HX1 HR1
  go_upto_region 3 with (fail)
  rw [← hw3, ← hy]
  clear hw3 hy hb3
  have y0 : w3.cell? ⟨y, 0, none⟩ = some (.slice A0 ts.length c0) := cell_of_row _ _ _ _ _ _ HY3.out
  have y1 : w3.cell? ⟨y, 1, none⟩ = some (.slice A1 os.length c1) := cell_of_row _ _ _ _ _ _ HY3.out
  have hyl : y < w3.heap.size := hlt_of HY3.out
  have hne1 : ¬ (w.heap.size = y) := by omega
  have hne2 : ¬ (y = w.heap.size) := by omega
  have tok1 : True := trivial
  go_region_held_law (fun w' => w'.cell? ⟨y, 0, none⟩ = some (.slice A0 ts.length c0) ∧ w'.cell? ⟨y, 1, none⟩ = some (.slice A1 os.length c1)) (go_keep)
    (first | (go_at_call 45; have _t := tok1; go_must (refine (l92Of_any (w.heap.size + 1) 30000 A0 _ c0 A1 _ c1 w3.drew (by omega) ht12 (HR3.out.drewN 1)).mono ?_); rintro e w4 ⟨r, hT4, rfl⟩; have HB4 := Lib.hid (below_dr HB3.out.drew hT4 (by omega)); have HX4 := Lib.hid ((hT4.1.block w.heap.size (by have := hlt_of HX3.out; exact this) (fun e => by injection e with e; omega)).trans HX3.out); have HCO4 := Lib.hid (HCO3.out.drew.grown hT4.1 (fun q e => by injection e with e; left; omega)); have y0 : w4.cell? ⟨y, 0, none⟩ = some (.slice A0 ts.length c0) := cell_of_row _ _ _ _ _ _ ((hT4.1.block y hyl (fun e => by injection e with e; omega)).trans HY3.out); have y1 : w4.cell? ⟨y, 1, none⟩ = some (.slice A1 os.length c1) := cell_of_row _ _ _ _ _ _ ((hT4.1.block y hyl (fun e => by injection e with e; omega)).trans HY3.out); have e0 : w4.cell? ⟨w.heap.size, 0, none⟩ = some (.slice none 0 0) := cell_of_row _ _ _ _ _ _ HX4.out; have e1 : w4.cell? ⟨w.heap.size, 1, none⟩ = some (.slice none 0 0) := cell_of_row _ _ _ _ _ _ HX4.out; have f0 : w4.frozen? ⟨w.heap.size, 0, none⟩ = false := frozen_of_row _ _ _ _ _ HX4.out; have f1 : w4.frozen? ⟨w.heap.size, 1, none⟩ = false := frozen_of_row _ _ _ _ _ HX4.out; have hyl4 : y < w4.heap.size := World.block_lt_of_cell? _ _ y0; clear tok1 _t hT4))
  all_goals
    go_wp2_with fail
    have HF := Lib.hid ((((HCO4.out.low (g := w.heap.size) (by omega) 0 (.slice A0 ts.length c0)).low (g := w.heap.size) (by omega) 1 (.slice A1 os.length c1)).base_le (base' := w.heap.size + 1) (by omega)).other (q := w.heap.size) (.inr (by omega)))
    exact bodyPost_ret (v := .tuple #[.agg #[.slice A0 ts.length c0, .slice A1 os.length c1], .int .i64 r]) (by simp [results, Try.results26, go_sem, e0, e1, f0, f1]) rfl ⟨_, _, _, _, ts, os, r, HF.out, HDB.out, (HB4.out.setCell (Nat.le_refl _) _).setCell (Nat.le_refl _) _, rfl⟩

set_option maxHeartbeats 800000 in
set_option maxRecDepth 100000 in
theorem drawFirst_any (A : Option Addr) (n c : Nat) (zs : List Int) (w : World) (h : IsRow .u8 w A n c zs) :
    Calls Try.prog 8 #[.slice A n c] w fun e w' => DrawnC w e w' := by
  have HI := Lib.hid (isRow_below h ((Below.refl _ _).alloc (Nat.le_refl _) (.cells #[.slice none 0 0, .slice none 0 0] 26)) (Nat.le_refl _))
  have hnew := Lib.hid (heap_alloc_new w (.cells #[.slice none 0 0, .slice none 0 0] 26))
  clear h
  go_enter Try.func8, Try.ntmps8
  go_wp2_with fail
  refine (drawTimeout_any _ _ _ zs _ HI.out).mono ?_
  rintro e w1 ⟨A0, c0, A1, c1, ts, os, r, hco, hdb, hb1, rfl⟩
  have hsz : (w.alloc (.cells #[.slice none 0 0, .slice none 0 0] 26)).heap.size = w.heap.size + 1 := by simp
  rw [hsz] at hco hb1
  have HX1 : Hid (w1.heap[w.heap.size]? = some (.cells #[.slice none 0 0, .slice none 0 0] 26 (0, 0))) := (hb1.block _ (by omega)).trans hnew.out
  have HB1 : Hid (Below w.heap.size w w1) := ((Below.refl _ _).alloc (Nat.le_refl _) _).trans (hb1.mono (by simp))
  have HDB := Lib.hid hdb
  have HF := Lib.hid ((((hco.low (g := w.heap.size) (by omega) 0 (.slice A0 ts.length c0)).low (g := w.heap.size) (by omega) 1 (.slice A1 os.length c1)).base_le (base' := w.heap.size + 1) (by omega)).other (q := w.heap.size) (.inr (by omega)))
  have e0 : w1.cell? ⟨w.heap.size, 0, none⟩ = some (.slice none 0 0) := cell_of_row _ _ _ _ _ _ HX1.out
  have e1 : w1.cell? ⟨w.heap.size, 1, none⟩ = some (.slice none 0 0) := cell_of_row _ _ _ _ _ _ HX1.out
  have f0 : w1.frozen? ⟨w.heap.size, 0, none⟩ = false := frozen_of_row _ _ _ _ _ HX1.out
  have f1 : w1.frozen? ⟨w.heap.size, 1, none⟩ = false := frozen_of_row _ _ _ _ _ HX1.out
  clear hco hdb hb1 hsz
  go_wp2_with fail
  exact bodyPost_ret (v := .tuple #[.agg #[.slice A0 ts.length c0, .slice A1 os.length c1], .int .i64 r]) (by simp [results, Try.results8, go_sem, e0, e1, f0, f1]) rfl ⟨_, _, _, _, ts, os, r, HF.out, HDB.out, (HB1.out.setCell (Nat.le_refl _) _).setCell (Nat.le_refl _) _, rfl⟩

end Go.Proofs.Ytgbkjfhmbchiiaa

namespace Go.Proofs.Ytgbkjfhmbchiiaa
set_option linter.unusedVariables false
set_option linter.unusedSimpArgs false
open Go.RowKit

theorem eq_take {xs ys : List Int} {k : Nat} (hl : k < xs.length) (hl' : k < ys.length) (h : xs.take k = ys.take k) (he : xs[k] = ys[k]) : xs.take (k + 1) = ys.take (k + 1) := by
  rw [List.take_succ_eq_append_getElem hl, List.take_succ_eq_append_getElem hl', h, he]
theorem eq_not {xs ys : List Int} {k : Nat} (hl : k < xs.length) (hl' : k < ys.length) (he : ¬ xs[k] = ys[k]) : decide (xs = ys) = false := by
  rw [decide_eq_false_iff_not]; intro e; subst e; exact he rfl
theorem eq_len {xs ys : List Int} (h : ¬ xs.length = ys.length) : decide (xs = ys) = false := by
  rw [decide_eq_false_iff_not]; intro e; subst e; exact h rfl

set_option maxRecDepth 100000 in
set_option maxHeartbeats 800000 in
theorem equalInt_any (xs ys : List Int) (A : Option Addr) (n c : Nat) (B : Option Addr) (m d : Nat) (w : World) (lo hi lo' hi' : Nat) (hn : n ≤ 9223372036854775807) (hm : m ≤ 9223372036854775807) (h : Ints w lo hi A n xs) (h' : Ints w lo' hi' B m ys) :
    Calls Try.prog 49 #[.slice A n c, .slice B m d] w fun e w' => e = .returned (.bool (decide (xs = ys))) ∧ ∃ q, w' = w.drewN q := by
  have HI := Lib.hid h
  have HJ := Lib.hid h'
  have HL := Lib.hid h.1
  have HM := Lib.hid h'.1
  clear h h'
  by_cases hnm : n = m
  · subst hnm
    go_enter Try.func49, Try.ntmps49
    go_wp2_with fail
    go_loopw [13] (fun i wr => ∃ k : Nat, k ≤ n ∧ i = .int .i64 k ∧ Hid (xs.take k = ys.take k) ∧ ∃ q, wr = w.drewN q) (fun i _ => n - (intOf i).toNat)
    case atStart => exact ⟨0, Nat.zero_le _, rfl, rfl, 0, rfl⟩
    case round =>
      obtain ⟨k, hk, rfl, HT, q, rfl⟩ := hrel
      by_cases hlt : k < n
      · obtain ⟨b, o, hl, rfl, _, _, hc⟩ := HI.out.int hlt
        obtain ⟨b', o', hl', rfl, _, _, hc'⟩ := HJ.out.int hlt
        by_cases he : xs[k] = ys[k]
        · have HY := Lib.hid (eq_take hl hl' HT.out he)
          have hd : (xs[k] == ys[k]) = true := by simpa using he
          have hd2 : (!(xs[k] == ys[k])) = false := by rw [hd]; rfl
          have hd3 : (xs[k] != ys[k]) = false := by simpa using he
          clear he
          go_wp2_with fail
          go_quiet (fail)
          go_wp2_with fail
          go_roundw
          case rel => exact ⟨k + 1, by omega, by go_num, HY.out, q + nq, by first | rfl | (simp [World.drewN, Nat.add_assoc]; done)⟩
          case measure => simp [intOf]; omega
        · have HY := Lib.hid (eq_not hl hl' he)
          have hd : (xs[k] == ys[k]) = false := by simpa using he
          have hd2 : (!(xs[k] == ys[k])) = true := by rw [hd]; rfl
          have hd3 : (xs[k] != ys[k]) = true := by simpa using he
          clear he
          go_wp2_with fail
          go_quiet (fail)
          go_wp2_with fail
          go_ret
          exact ⟨ret_bool HY.out.symm, q + nq, by first | rfl | (simp [World.drewN, Nat.add_assoc]; done)⟩
      · have hkn : k = n := by omega
        subst hkn
        have HY : Hid (decide (xs = ys) = true) := by
          show _ = _
          have := HT.out
          rw [List.take_of_length_le (by rw [HL.out]; exact Nat.le_refl _), List.take_of_length_le (by rw [HM.out]; exact Nat.le_refl _)] at this
          exact decide_eq_true this
        go_wp2_with fail
        go_ret
        exact ⟨ret_bool HY.out.symm, q, rfl⟩
  · have HY := Lib.hid (eq_len (xs := xs) (ys := ys) (by rw [HL.out, HM.out]; exact hnm))
    have hq : (!((n : Int) == (m : Int))) = true := by simp; omega
    have hq2 : ((n : Int) != (m : Int)) = true := by simp; omega
    clear hnm
    go_enter Try.func49, Try.ntmps49
    go_wp2_with fail
    go_ret
    exact ⟨ret_bool HY.out.symm, 0, rfl⟩

/-- a row in ascending order -/
def srt (xs : List Int) : List Int := xs.mergeSort fun x y => decide (x ≤ y)
theorem srt_len (xs : List Int) : (srt xs).length = xs.length := by unfold srt; simp
theorem sortInt_row (xs : List Int) (A : Option Addr) (n c base : Nat) (w : World) (hn20 : n ≤ 1048576) (h : w.ownsRow base 3 1 (.slice A n c) n (xs.flatMap ci)) :
    Calls Try.prog 48 #[.slice A n c] w fun e w' => e = .returned (.tuple #[]) ∧ w'.ownsRow base 3 1 (.slice A n c) n ((srt xs).flatMap ci) ∧ Below base w w' := by
  have hl : xs.length = n := by
    have := h.1
    rw [flat_len ci 1 ci_len] at this
    omega
  rcases Nat.eq_zero_or_pos n with h0 | h0
  · subst h0
    have hx : xs = [] := List.eq_nil_of_length_eq_zero hl
    subst hx
    refine (Try.slices_Sort_int_none A c w).mono ?_
    rintro e w' ⟨rfl, rfl⟩
    exact ⟨rfl, by unfold srt; simpa using h, Below.refl _ _⟩
  · rcases h.2 with ⟨e1, -⟩ | ⟨g, cap, cur, e1, hb, hh, hn, hm, hs, ht⟩
    · injection e1 with _ e2 _; omega
    · injection e1 with e1 e2 e3
      subst e1 e3
      subst hl
      have hlt : g < w.heap.size := by
        rcases Nat.lt_or_ge g w.heap.size with hlt | hge
        · exact hlt
        · rw [Array.getElem?_eq_none hge] at hh; cases hh
      have ht' : cur.toList.take xs.length = xs.map (Value.int .i64) := by
        rw [Nat.mul_one] at ht
        rw [ht, flat_ci]
      refine (Try.slices_Sort_int g 0 c xs w (holds_of_blockI hh ht') hlt (by omega)).mono ?_
      rintro e w' ⟨rfl, q, os, rfl⟩
      have h1 := ownsRow_sortedI (base := base) (n := q) (os := os) (srt_len xs) hb hh hn hm hs
      rw [flat_ci]
      refine ⟨rfl, h1, ?_⟩
      exact (Below.refl _ _).grown (grownBy_sortedI _) (by omega) (fun j hj => by injection hj with hj; omega)

end Go.Proofs.Ytgbkjfhmbchiiaa

namespace Go.Proofs.Ytgbkjfhmbchiiaa
set_option linter.unusedVariables false
set_option linter.unusedSimpArgs false
open Go.RowKit

theorem coordB_fin {c : CoordD} (h : c.txns.all txnB = true) : coordB c = (decide (c.txns.length ≤ 12) && decide (srt c.order = comms c.txns)) := by
  unfold coordB
  rw [h]; rfl
theorem txns_all {ts : List TxnD} {k : Nat} (hl : k < ts.length) (h : (ts.take k).all txnB = true) (hv : txnB ts[k] = true) : (ts.take (k + 1)).all txnB = true := by
  rw [List.take_succ_eq_append_getElem hl, List.all_append, h]; simp [hv]

set_option maxHeartbeats 3200000 in
set_option maxRecDepth 100000 in
theorem implCoord_any (txns : List TxnD) (order : List Int) (A0 : Option Addr) (n0 c0 : Nat) (A1 : Option Addr) (n1 c1 : Nat) (w : World) (lo hi : Nat) (hh : hi ≤ w.heap.size) (hr0 : D.rd w lo hi (dTxns txns) (.slice A0 n0 c0)) (hr1 : D.rd w lo hi (intsD order) (.slice A1 n1 c1)) (hn0 : n0 ≤ 1048576) (hn1 : n1 ≤ 1048576)
    (hwf : ∀ t ∈ txns, ∀ v ∈ t.votes, (Lit.int .i64 v).wf = true) :
    Calls Try.prog 28 #[.agg #[.slice A0 n0 c0, .slice A1 n1 c1]] w fun e w' => e = .returned (.bool (coordB ⟨txns, order⟩)) ∧ Below w.heap.size w w' := by
  have HB0 : Hid (Below w.heap.size w (w.alloc (.cells #[.slice A0 n0 c0, .slice A1 n1 c1] 26))) := (Below.refl _ _).alloc (Nat.le_refl _) _
  have HX0 : Hid ((w.alloc (.cells #[.slice A0 n0 c0, .slice A1 n1 c1] 26)).heap[w.heap.size]? = some (.cells #[.slice A0 n0 c0, .slice A1 n1 c1] 26 (0, 0))) := Lib.hid (heap_alloc_new w _)
  have HI := Lib.hid hr0
  have HO := Lib.hid hr1.ints
  have HN0 := Lib.hid hr0.len.1
  have HN1 := Lib.hid hr1.ints.1
  have HWF := Lib.hid hwf
  have HR0 : Hid (World.ownsRow (w.alloc (.cells #[.slice A0 n0 c0, .slice A1 n1 c1] 26)) (w.heap.size + 1) 3 1 (.slice none 0 0) 0 ((commTo txns 0).flatMap ci)) := Lib.hid (World.ownsRow_nil _ _ _ _)
  clear hr0 hr1 hwf
  go_enter Try.func28, Try.ntmps28
  go_wp2_with fail
  go_loopw [3, 10] (fun y i wr => ∃ (k m : Nat) (v : Value), k ≤ n0 ∧ m ≤ k ∧ i = .int .i64 k ∧ v = y ∧ Hid (wr.ownsRow (w.heap.size + 1) 3 1 v m ((commTo txns k).flatMap ci)) ∧ Hid ((txns.take k).all txnB = true) ∧ Hid (wr.heap[w.heap.size]? = some (.cells #[.slice A0 n0 c0, .slice A1 n1 c1] 26 (0, 0))) ∧ Below w.heap.size w wr) (fun _ i _ => n0 - (intOf i).toNat)
  case atStart => exact ⟨0, 0, _, Nat.zero_le _, Nat.le_refl _, rfl, rfl, HR0.out, rfl, HX0.out, HB0.out⟩
  case round =>
    obtain ⟨k, m, v, hk, hmk, rfl, rfl, HR, HT, HX, hb⟩ := hrel
    have HB := Lib.hid hb
    have hwsz : w.heap.size < wr.heap.size := hlt_of HX.out
    have b0 := cell_of_row wr w.heap.size 0 _ _ _ HX.out
    have b1 := cell_of_row wr w.heap.size 1 _ _ _ HX.out
    clear hb HX0 HB0 HR0
    by_cases hlt : k < n0
    · obtain ⟨b, o, hl, A2, n2, c2, A3, n3, c3, rfl, _, hbh, hc0, hc1, hc2, ⟨hn2, hm2, hr2⟩, ⟨hn3, hm3, hr3⟩⟩ := rd_Txn (HI.out.below HB.out hh) hlt
      have hhr : hi ≤ wr.heap.size := by omega
      have hbw : b < wr.heap.size := by omega
      have HR2 := Lib.hid (hr2.alloc hhr (.cells #[.slice A2 n2 c2, .slice A3 n3 c3, .int .i64 txns[k].dec] 46))
      have HR3 := Lib.hid (hr3.alloc hhr (.cells #[.slice A2 n2 c2, .slice A3 n3 c3, .int .i64 txns[k].dec] 46))
      have HBA : Hid (Below w.heap.size w (wr.alloc (.cells #[.slice A2 n2 c2, .slice A3 n3 c3, .int .i64 txns[k].dec] 46))) := Lib.hid (HB.out.alloc (by omega) _)
      have HXA : Hid ((wr.alloc (.cells #[.slice A2 n2 c2, .slice A3 n3 c3, .int .i64 txns[k].dec] 46)).heap[w.heap.size]? = some (.cells #[.slice (some ⟨b, o, none⟩) n0 c0, .slice A1 n1 c1] 26 (0, 0))) := Lib.hid ((Below.heap_alloc wr _ _ hwsz).trans HX.out)
      have HYA : Hid ((wr.alloc (.cells #[.slice A2 n2 c2, .slice A3 n3 c3, .int .i64 txns[k].dec] 46)).heap[wr.heap.size]? = some (.cells #[.slice A2 n2 c2, .slice A3 n3 c3, .int .i64 txns[k].dec] 46 (0, 0))) := Lib.hid (heap_alloc_new wr _)
      have hwv : ∀ v ∈ txns[k].votes, (Lit.int .i64 v).wf = true := HWF.out _ (List.getElem_mem hl)
      have HWV := Lib.hid hwv
      clear hr2 hr3 hwv
      rcases hv : txnB txns[k] with _ | _
      · have hno := Lib.hid (coordB_no1 (c := ⟨txns, order⟩) hl hv)
        have hv' : txnB ⟨txns[k].parts, txns[k].votes, txns[k].dec⟩ = false := hv
        clear hv
        go_wp2_with fail
        refine (txnOk_any txns[k].parts txns[k].votes txns[k].dec A2 n2 c2 A3 n3 c3 _ lo hi (by simp; omega) HR2.out HR3.out HWV.out).mono ?_
        rintro e w1 ⟨rfl, hb1⟩
        have HB1 := Lib.hid (bel_tr HBA.out (Nat.le_refl _) hb1)
        clear hb1
        rw [hv']
        go_wp2_with fail
        go_ret
        exact ⟨ret_bool hno.out.symm, HB1.out⟩
      · have hv' : txnB ⟨txns[k].parts, txns[k].votes, txns[k].dec⟩ = true := hv
        have HT2 := Lib.hid (txns_all hl HT.out hv)
        have HC := Lib.hid (comAt_get hl)
        clear hv
        go_wp2_with fail
        refine (txnOk_any txns[k].parts txns[k].votes txns[k].dec A2 n2 c2 A3 n3 c3 _ lo hi (by simp; omega) HR2.out HR3.out HWV.out).mono ?_
        rintro e w1 ⟨rfl, hb1⟩
        have HB1 := Lib.hid (bel_tr HBA.out (Nat.le_refl _) hb1)
        have HX1 := Lib.hid ((hb1.block _ (by simp; omega)).trans HXA.out)
        have HY1 := Lib.hid ((hb1.block _ (by simp)).trans HYA.out)
        have hz1 : w.heap.size < w1.heap.size := hlt_of HX1.out
        have hz1b : wr.heap.size < w1.heap.size := hlt_of HY1.out
        have d2 := cell_of_row w1 wr.heap.size 2 _ _ _ HY1.out
        have HR1 := Lib.hid (own_below (HR.out.alloc (.cells #[.slice A2 n2 c2, .slice A3 n3 c3, .int .i64 txns[k].dec] 46)) hb1)
        clear hb1
        rw [hv']
        by_cases hd : txns[k].dec = 2
        · have hd2 : (txns[k].dec == 2) = true := by simpa using hd
          have HC2 : Hid (comAt txns k = true) := HC.out.trans (decide_eq_true hd)
          have HCS : Hid (commTo txns (k + 1) = commTo txns k ++ [(k : Int)]) := by show _ = _; rw [commTo_succ, if_pos HC2.out]
          clear hd
          go_wp2_with (at_builtin; go_must (refine wpList_app Try.elI (m := 1) (HR1.out.alloc _) (rd_newn (n := w1.heap.size) rfl [.int .i64 (k : Int)] 3) rfl (by simp [Value.oneCell']) (by unfold maxLen; omega) (by omega) (by simp; omega) rfl rfl rfl rfl ?_); intro v2 w2 hown2 hg2; have HO2 := Lib.hid hown2; have HB2 := Lib.hid (below_app (HB1.out.alloc (by omega) _) (by omega : w.heap.size ≤ w.heap.size + 1) (by simp; omega) (HR1.out.alloc _) hg2); have HX2 := Lib.hid ((hg2.block _ (by simp; omega) (fun e => by have := (HR1.out.lt w.heap.size e.symm).1; omega)).trans ((Below.heap_alloc w1 _ _ hz1).trans HX1.out)); clear hown2 hg2)
          have HO3 : Hid (w2.ownsRow (w.heap.size + 1) 3 1 v2 (m + 1) ((commTo txns (k + 1)).flatMap ci)) := by
            have := HO2.out
            show World.ownsRow _ _ _ _ _ _ _
            rw [HCS.out, List.flatMap_append]; exact this
          go_wp2_with fail
          exact ⟨⟨k + 1, m + 1, _, by omega, by omega, by go_num, rfl, HO3.out, HT2.out, HX2, HB2.out⟩, by simp [intOf]; omega⟩
        · have hd2 : (txns[k].dec == 2) = false := by simpa using hd
          have HC2 : Hid (comAt txns k = false) := HC.out.trans (decide_eq_false hd)
          have HCS : Hid (commTo txns (k + 1) = commTo txns k) := by show _ = _; rw [commTo_succ, HC2.out]; rfl
          have HO3 : Hid (w1.ownsRow (w.heap.size + 1) 3 1 v m ((commTo txns (k + 1)).flatMap ci)) := by
            show World.ownsRow _ _ _ _ _ _ _
            rw [HCS.out]; exact HR1.out
          clear hd
          go_wp2_with fail
          exact ⟨⟨k + 1, m, _, by omega, by omega, by go_num, rfl, HO3.out, HT2.out, HX1, HB1.out⟩, by simp [intOf]; omega⟩
    · have hkn : k = n0 := by omega
      subst hkn
      have htk : txns.take k = txns := List.take_of_length_le (by have := HN0.out; omega)
      rw [htk] at HT
      have HE := Lib.hid (coordB_fin (c := ⟨txns, order⟩) HT.out)
      have HCM : Hid (comms txns = commTo txns k) := by show _ = _; rw [comms_to, HN0.out]
      obtain ⟨A4, c4, rfl, hc4, hm4, hrd4⟩ := Rd.of_own HR.out
      have hm4' : m ≤ 9223372036854775807 := by omega
      clear htk hc4 hm4 hrd4
      go_wp2_with fail
      refine (cloneInt_row order A1 n1 c1 wr lo hi (by omega) (by omega) (HO.out.below HB.out hh)).mono ?_
      rintro e w1 ⟨B1, d1, ho1, hb1, rfl⟩
      have HB1 := Lib.hid (bel_tr HB.out (Nat.le_refl _) hb1)
      have HR1 := Lib.hid (own_below HR.out hb1)
      have HX1 := Lib.hid ((hb1.block _ hwsz).trans HX.out)
      have HO1 := Lib.hid ho1
      have hs1 := hb1.size
      have HW1 := Lib.hid hb1
      clear ho1 hb1
      go_wp2_with fail
      refine (sortInt_row order B1 n1 d1 wr.heap.size w1 (by omega) HO1.out).mono ?_
      rintro e w2 ⟨rfl, ho2, hb2⟩
      have HB2 := Lib.hid (HB1.out.trans (hb2.mono (by omega)))
      have HR2 := Lib.hid (own_below HR.out (HW1.out.trans hb2))
      have HX2 := Lib.hid ((hb2.block _ (by omega)).trans HX1.out)
      have HO2 := Lib.hid ho2
      have e0 := cell_of_row w2 w.heap.size 0 _ _ _ HX2.out
      obtain ⟨_, _, hv5, -, -, hrd5⟩ := Rd.of_own HO2.out
      injection hv5 with h5 _ h6
      subst h5 h6
      obtain ⟨_, _, hv6, -, -, hrd6⟩ := Rd.of_own HR2.out
      injection hv6 with h5 _ h6
      subst h5 h6
      have hlo : order.length = n1 := HN1.out
      have HQ5 : Hid (Ints w2 wr.heap.size w2.heap.size B1 n1 (srt order)) := ⟨by rw [srt_len]; exact hlo, hrd5⟩
      have HQ6 : Hid (Ints w2 (w.heap.size + 1) w2.heap.size A4 m (commTo txns k)) := ⟨by have := HR2.out.1; rw [flat_len ci 1 ci_len] at this; omega, hrd6⟩
      clear ho2 hb2 hrd5 hrd6
      go_wp2_with (go_at_call 49; refine (equalInt_any (srt order) (commTo txns k) B1 n1 d1 A4 m c4 _ _ _ _ _ (by omega) hm4' HQ5.out HQ6.out).mono ?_; rintro e w3 ⟨rfl, q, rfl⟩)
      · go_ret
        refine ⟨ret_bool ?_, below_drewN HB2.out _⟩
        rw [HE.out, HCM.out]
        show _ = (decide (txns.length ≤ 12) && _)
        rw [← HN0.out, decide_eq_true (by omega : k ≤ 12)]; first | rfl | simp
      · go_ret
        refine ⟨ret_bool ?_, HB2.out⟩
        rw [HE.out]
        show _ = (decide (txns.length ≤ 12) && _)
        rw [← HN0.out, decide_eq_false (by omega : ¬ k ≤ 12)]; rfl

end Go.Proofs.Ytgbkjfhmbchiiaa

namespace Go.Proofs.Ytgbkjfhmbchiiaa
set_option linter.unusedVariables false
set_option linter.unusedSimpArgs false
open Go.RowKit

set_option maxHeartbeats 1600000 in
set_option maxRecDepth 100000 in
theorem implFirst_any (txns : List TxnD) (order : List Int) (txn : Int) (A0 : Option Addr) (n0 c0 : Nat) (A1 : Option Addr) (n1 c1 : Nat) (w : World) (lo hi : Nat) (hh : hi ≤ w.heap.size) (hr0 : D.rd w lo hi (dTxns txns) (.slice A0 n0 c0)) (hr1 : D.rd w lo hi (intsD order) (.slice A1 n1 c1)) (hn0 : n0 ≤ 1048576) (hn1 : n1 ≤ 1048576)
    (hwf : ∀ t ∈ txns, ∀ v ∈ t.votes, (Lit.int .i64 v).wf = true) :
    Calls Try.prog 9 #[.agg #[.slice A0 n0 c0, .slice A1 n1 c1], .int .i64 txn] w fun e w' => e = .returned (.int .i64 (firstL ⟨txns, order⟩ txn)) ∧ Below w.heap.size w w' := by
  have HB0 : Hid (Below w.heap.size w (w.alloc (.cells #[.slice A0 n0 c0, .slice A1 n1 c1] 26))) := (Below.refl _ _).alloc (Nat.le_refl _) _
  have HT := Lib.hid (hr0.alloc hh (.cells #[.slice A0 n0 c0, .slice A1 n1 c1] 26))
  have HO := Lib.hid (hr1.alloc hh (.cells #[.slice A0 n0 c0, .slice A1 n1 c1] 26))
  have HL := Lib.hid hr1.ints.1
  have HWF := Lib.hid hwf
  have hx := idxI_lt txn order
  have HLL := Lib.hid (hr1.ints.1)
  rw [hr1.ints.1] at hx
  obtain ⟨x, hxe⟩ : ∃ x, idxI txn order = x := ⟨_, rfl⟩
  rw [hxe] at hx
  have HXE := Lib.hid hxe
  clear hr0 hr1 hwf hxe
  go_enter Try.func9, Try.ntmps9
  go_wp2_with fail
  refine (index_any A1 n1 c1 order txn _ lo hi (by omega) HO.out.ints).mono ?_
  rintro e w1 ⟨rfl, rfl⟩
  rw [HXE.out]
  go_wp2_with fail
  refine (implCoord_any txns order A0 n0 c0 A1 n1 c1 _ lo hi (by simp; omega) HT.out HO.out hn0 hn1 HWF.out).mono ?_
  rintro e w2 ⟨rfl, hb2⟩
  have HB2 := Lib.hid (bel_tr HB0.out (Nat.le_refl _) hb2)
  clear hb2
  rcases hv : coordB ⟨txns, order⟩ with _ | _
  · have hr := Lib.hid (firstL_bad (txn := txn) hv)
    clear hv
    go_wp2_with fail
    go_ret
    exact ⟨ret_int hr.out.symm, HB2.out⟩
  · by_cases h0 : x < 0
    · have hr := Lib.hid (firstL_none (c := ⟨txns, order⟩) (txn := txn) (by show idxI txn order < 0; rw [HXE.out]; exact h0))
      clear hv
      go_wp2_with fail
      go_ret
      exact ⟨ret_int hr.out.symm, HB2.out⟩
    · have h0' : 0 ≤ x := by omega
      have hr := Lib.hid (firstL_at (txn := txn) hv (by show 0 ≤ idxI txn order; rw [HXE.out]; exact h0'))
      clear hv h0
      go_wp2_with fail
      go_ret
      refine ⟨ret_int ?_, HB2.out⟩
      rw [hr.out]
      show _ = idxI txn order + 1
      rw [HXE.out]

set_option maxHeartbeats 1600000 in
set_option maxRecDepth 100000 in
theorem specFirst_any (txns : List TxnD) (order : List Int) (txn : Int) (A0 : Option Addr) (n0 c0 : Nat) (A1 : Option Addr) (n1 c1 : Nat) (w : World) (lo hi : Nat) (hh : hi ≤ w.heap.size) (hr0 : D.rd w lo hi (dTxns txns) (.slice A0 n0 c0)) (hr1 : D.rd w lo hi (intsD order) (.slice A1 n1 c1)) (hn1 : n1 ≤ 1048576) :
    Calls Try.prog 10 #[.agg #[.slice A0 n0 c0, .slice A1 n1 c1], .int .i64 txn] w fun e w' => e = .returned (.int .i64 (firstL ⟨txns, order⟩ txn)) ∧ Below w.heap.size w w' := by
  have HB0 : Hid (Below w.heap.size w (w.alloc (.cells #[.slice A0 n0 c0, .slice A1 n1 c1] 26))) := (Below.refl _ _).alloc (Nat.le_refl _) _
  have HX0 : Hid ((w.alloc (.cells #[.slice A0 n0 c0, .slice A1 n1 c1] 26)).heap[w.heap.size]? = some (.cells #[.slice A0 n0 c0, .slice A1 n1 c1] 26 (0, 0))) := Lib.hid (heap_alloc_new w _)
  have HT := Lib.hid hr0
  have HO := Lib.hid hr1
  have HL := Lib.hid hr1.ints.1
  clear hr0 hr1
  go_enter Try.func10, Try.ntmps10
  go_wp2_with fail
  go_loopw [5] (fun i wr => ∃ k : Nat, k ≤ n1 ∧ i = .int .i64 k ∧ Hid (txn ∉ order.take k) ∧ Hid (wr.heap[w.heap.size]? = some (.cells #[.slice A0 n0 c0, .slice A1 n1 c1] 26 (0, 0))) ∧ Below w.heap.size w wr) (fun i _ => n1 - (intOf i).toNat)
  case atStart => exact ⟨0, Nat.zero_le _, rfl, by show _ ∉ _; simp, HX0.out, HB0.out⟩
  case round =>
    obtain ⟨k, hk, rfl, HN, HX, hb⟩ := hrel
    have HB := Lib.hid hb
    have hwsz : w.heap.size < wr.heap.size := hlt_of HX.out
    have b0 := cell_of_row wr w.heap.size 0 _ _ _ HX.out
    have b1 := cell_of_row wr w.heap.size 1 _ _ _ HX.out
    clear hb HX0 HB0
    by_cases hlt : k < n1
    · have hlt2 : (k : Int) < (n1 : Int) := by omega
      go_wp2_with fail
      refine (specCoord_any txns order A0 n0 c0 A1 n1 c1 wr lo hi (by omega) (HT.out.below HB.out hh) (HO.out.below HB.out hh)).mono ?_
      rintro e w1 ⟨rfl, hb1⟩
      have HB1 := Lib.hid (bel_tr HB.out (Nat.le_refl _) hb1)
      have HX1 := Lib.hid ((hb1.block _ hwsz).trans HX.out)
      have e0 := cell_of_row w1 w.heap.size 0 _ _ _ HX1.out
      have e1 := cell_of_row w1 w.heap.size 1 _ _ _ HX1.out
      clear hb1
      rcases hv : coordB ⟨txns, order⟩ with _ | _
      · have hr := Lib.hid (firstL_bad (txn := txn) hv)
        clear hv
        go_wp2_with fail
        go_ret
        exact ⟨ret_int hr.out.symm, HB1.out⟩
      · obtain ⟨b, o, hl, rfl, _, hbh, hc⟩ := (HO.out.ints.below HB1.out hh).int hlt
        by_cases he : order[k] = txn
        · have HI := Lib.hid (idxI_at hl HN.out he)
          have hr := Lib.hid (firstL_at (txn := txn) hv (by show 0 ≤ idxI txn order; rw [HI.out]; omega))
          rw [he] at hc
          clear hv he
          go_wp2_with fail
          go_ret
          refine ⟨ret_int ?_, HB1.out⟩
          rw [hr.out]
          show _ = idxI txn order + 1
          rw [HI.out]
        · have hd : (order[k] == txn) = false := by simpa using he
          have HN2 := Lib.hid (take_mem_succ hl HN.out he)
          clear hv he
          go_wp2_with fail
          go_roundw
          case rel => exact ⟨k + 1, by omega, by go_num, HN2.out, HX1.out, HB1.out⟩
          case measure => simp [intOf]; omega
    · have hkn : k = n1 := by omega
      subst hkn
      have HI := Lib.hid (idxI_none HL.out HN.out)
      have hr := Lib.hid (firstL_none (c := ⟨txns, order⟩) (txn := txn) (by show idxI txn order < 0; rw [HI.out]; decide))
      go_wp2_with fail
      go_ret
      exact ⟨ret_int hr.out.symm, HB.out⟩

end Go.Proofs.Ytgbkjfhmbchiiaa
