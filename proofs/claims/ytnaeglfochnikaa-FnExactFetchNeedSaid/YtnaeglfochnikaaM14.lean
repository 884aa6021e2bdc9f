/-
  The heap's own Swap. Condition: lengths fit an int64.
  The heap's own Pop. Condition: lengths fit an int64; the heap is not empty.
-/
import Derived.Test.YtnaeglfochnikaaM13
namespace Go.Proofs.Ytnaeglfochnikaa
set_option linter.unusedVariables false
set_option linter.unusedSimpArgs false
open Go.RowKit

set_option maxRecDepth 100000 in
set_option maxHeartbeats 1600000 in
theorem heapSwap_any (xs : List Int) (base g n c : Nat) (i j : Nat) (w : World) (hi : i < n) (hj : j < n) (hn : n ≤ 1000) (h : w.ownsRow base 3 1 (.slice (some ⟨g, 0, none⟩) n c) n (xs.flatMap ci)) :
    Calls Try.prog 111 #[.slice (some ⟨g, 0, none⟩) n c, .int .i64 i, .int .i64 j] w fun e w' => (∃ y, e = .returned y) ∧ ∃ m, w' = ((w.setCell ⟨g, i, none⟩ (.int .i64 (xs.getD j 0))).setCell ⟨g, j, none⟩ (.int .i64 (xs.getD i 0))).drewN m := by
  have hl : xs.length = n := by
    have := h.1
    rw [flat_len ci 1 ci_len] at this
    omega
  have hcell : ∀ k, k < n → w.cell? ⟨g, k, none⟩ = some (.int .i64 (xs.getD k 0)) ∧ w.frozen? ⟨g, k, none⟩ = false := fun k hk => by
    have hq := QRow.of_own (e := 3) (w := w) (base := base) (v := .slice (some ⟨g, 0, none⟩) n c) (xs := xs) (by rw [hl]; exact h)
    rcases hq with ⟨h1, _⟩ | ⟨g', off, cap, h1, h2, h3, h4, h5, h6, h7⟩
    · cases h1
    · injection h1 with e1 e2 e3
      injection e1 with e1
      injection e1 with e1 e4
      subst e1 e4 e3
      have a1 := h6 k (by omega)
      have a2 := (h7 k (by omega)).2
      rw [Nat.zero_add] at a1 a2
      refine ⟨?_, a2⟩
      rw [a1]; simp [List.getD_eq_getElem?_getD, (show k < xs.length by omega)]
  obtain ⟨a1, a2⟩ := hcell i hi
  obtain ⟨b1, b2⟩ := hcell j hj
  generalize xs.getD i 0 = x at a1
  generalize xs.getD j 0 = y at b1
  have h0i : (0 : Int) ≤ (i : Int) := by omega
  have h0j : (0 : Int) ≤ (j : Int) := by omega
  have hin : (i : Int) < (n : Int) := by omega
  have hjn : (j : Int) < (n : Int) := by omega
  have hxy : i = j → x = y := fun e => by subst e; rw [a1] at b1; injection b1 with b1; injection b1
  have s1 : (w.setCell ⟨g, i, none⟩ (.int .i64 y)).cell? ⟨g, j, none⟩ = some (.int .i64 y) := by
    by_cases e : i = j
    · subst e; exact World.cell?_setCell_same' _ _ _ (by rw [a1]; rfl)
    · have hne : (⟨g, i, none⟩ : Addr) ≠ ⟨g, j, none⟩ := by
        intro h; injection h with _ h; exact e h
      have := World.cell?_setCell_other w _ _ (.int .i64 y) hne
      exact this.trans b1
  have s2 : (w.setCell ⟨g, i, none⟩ (.int .i64 y)).frozen? ⟨g, j, none⟩ = false := by rw [World.frozen?_setCell]; exact b2
  clear h hl hcell hxy
  go_enter Try.func111, Try.ntmps111
  go_wp2_with fail
  go_region
  all_goals
    go_wp2_with fail
    go_end0
    exact ⟨⟨_, rfl⟩, 1, rfl⟩

/-- a heap in which two numbers have changed places -/
theorem HeapB.swap {w : World} {base H g n c i j : Nat} {xs : List Int} (h : HeapB w base H (.slice (some ⟨g, 0, none⟩) n c) xs) (hn : n = xs.length) (hi : i < n) (hj : j < n) (m : Nat) :
    HeapB (((w.setCell ⟨g, i, none⟩ (.int .i64 (xs.getD j 0))).setCell ⟨g, j, none⟩ (.int .i64 (xs.getD i 0))).drewN m) base H (.slice (some ⟨g, 0, none⟩) n c) (swp xs i j) ∧
    HKeep w (((w.setCell ⟨g, i, none⟩ (.int .i64 (xs.getD j 0))).setCell ⟨g, j, none⟩ (.int .i64 (xs.getD i 0))).drewN m) H (.slice (some ⟨g, 0, none⟩) n c) := by
  subst hn
  have hg1 := Lib.grownBy_setCell w g i (.int .i64 (xs.getD j 0))
  have hg2 := Lib.grownBy_setCell (w.setCell ⟨g, i, none⟩ (.int .i64 (xs.getD j 0))) g j (.int .i64 (xs.getD i 0))
  have hgH : g ≠ H := h.2.2 g rfl
  have hlH := hltS h.1
  refine ⟨⟨?_, ?_, h.2.2⟩, hg2.os.trans hg1.os, hg2.tape.trans hg1.tape, hg2.output.trans hg1.output, Nat.le_trans hg1.size hg2.size, fun k hk hkH hkv => ?_⟩
  · show (World.setCell _ _ _).heap[H]? = _
    rw [hg2.block H (Nat.lt_of_lt_of_le hlH hg1.size) (fun e => by injection e with e; exact hgH e.symm), hg1.block H hlH (fun e => by injection e with e; exact hgH e.symm)]
    exact h.1
  · have hci : ∀ ys : List Int, ys.flatMap ci = ys.map fun x => Value.int .i64 x := fun ys => by
      induction ys with
      | nil => rfl
      | cons y ys ih => rw [List.flatMap_cons, ih]; rfl
    have h1 := ((h.2.1.stored i (.int .i64 (xs.getD j 0))).1.stored j (.int .i64 (xs.getD i 0))).1
    have e : ((xs.flatMap ci).set i (.int .i64 (xs.getD j 0))).set j (.int .i64 (xs.getD i 0)) = (swp xs i j).flatMap ci := by
      rw [hci, hci]
      unfold swp
      rw [List.map_set, List.map_set]
    rw [e] at h1
    rw [swp_len]
    exact h1
  · have hkg : k ≠ g := fun e => hkv (by rw [e]; rfl)
    show (World.setCell _ _ _).heap[k]? = _
    rw [hg2.block k (Nat.lt_of_lt_of_le hk hg1.size) (fun e => by injection e with e; exact hkg e), hg1.block k hk (fun e => by injection e with e; exact hkg e)]

end Go.Proofs.Ytnaeglfochnikaa

namespace Go.Proofs.Ytnaeglfochnikaa
set_option linter.unusedVariables false
set_option linter.unusedSimpArgs false
open Go.RowKit

theorem own_prefix {w : World} {base n c : Nat} {e : TypeId} {A : Option Addr} {cs : List Value} (h : w.ownsRow base e 1 (.slice A (n + 1) c) (n + 1) cs) : w.ownsRow base e 1 (.slice A n c) n (cs.take n) := by
  have hl := h.1
  refine ⟨by rw [List.length_take]; omega, ?_⟩
  rcases h.2 with ⟨e1, h2⟩ | ⟨g, cap, cur, e1, h3, h4, h5, h6, h7, h8⟩
  · omega
  · injection e1 with e1 e2 e3
    subst e1 e3
    refine .inr ⟨g, c, cur, rfl, h3, h4, by omega, h6, h7, ?_⟩
    rw [← h8, List.take_take]
    congr 1
    omega
theorem popEnd {xs : List Int} {base H n c b o : Nat} {w : World} (h : HeapB w base H (.slice (some ⟨b, o, none⟩) xs.length c) xs) (hl : xs.length = n + 1) :
    ∃ v', HeapB ((w.setCell ⟨H, 0, none⟩ (.slice (some ⟨b, o, none⟩) n c)).drew.drew) base H v' (xs.take n) ∧ HKeep w ((w.setCell ⟨H, 0, none⟩ (.slice (some ⟨b, o, none⟩) n c)).drew.drew) H (.slice (some ⟨b, o, none⟩) (n + 1) c) ∧ v'.ownBlock = (Value.slice (some ⟨b, o, none⟩) (n + 1) c).ownBlock := by
  obtain ⟨h1, h2, h3⟩ := h
  rw [hl] at h2
  have hgs := Lib.grownBy_setCell w H 0 (.slice (some ⟨b, o, none⟩) n c)
  have hci : ∀ ys : List Int, ys.flatMap ci = ys.map fun x => Value.int .i64 x := fun ys => by
    induction ys with
    | nil => rfl
    | cons y ys ih => rw [List.flatMap_cons, ih]; rfl
  have hp := own_prefix h2
  have e : (xs.flatMap ci).take n = (xs.take n).flatMap ci := by rw [hci, hci, List.map_take]
  rw [e] at hp
  refine ⟨.slice (some ⟨b, o, none⟩) n c, ⟨?_, ?_, fun g hg => h3 g hg⟩, ⟨hgs.os, hgs.tape, hgs.output, hgs.size, fun k hk hkH _ => ?_⟩, rfl⟩
  · show (World.setCell _ _ _).heap[H]? = _
    rw [heap_setCell_same w H 0 _ _ _ h1]; rfl
  · rw [List.length_take, Nat.min_eq_left (by omega)]
    have h9 := hp.kept hgs (ownNe fun g hg (e : some H = some g) => by injection e with e; exact h3 g hg e.symm)
    exact h9
  · exact hgs.block k hk (fun e => by injection e with e; exact hkH e)
set_option maxRecDepth 100000 in
set_option maxHeartbeats 1600000 in
theorem heapPopM_any (xs : List Int) (base H n : Nat) (v : Value) (w : World) (hl : xs.length = n + 1) (hn : n ≤ 1000) (h : HeapB w base H v xs) :
    Calls Try.prog 109 #[.pointer (some ⟨H, 0, none⟩)] w fun e w' => e = .returned (.iface 3 (.int .i64 (xs.getD n 0))) ∧ ∃ v', HeapB w' base H v' (xs.take n) ∧ HKeep w w' H v ∧ v'.ownBlock = v.ownBlock := by
  have HB := Lib.hid h
  obtain ⟨A, c, rfl⟩ := h.shape
  have hcell := h.cell
  have hfz : w.frozen? ⟨H, 0, none⟩ = false := frozen_of_row w H 0 _ _ h.1
  obtain ⟨A', c', e1, hc1, hc2, hrd⟩ := Rd.of_own h.2.1
  injection e1 with e1 e2 e3
  subst e1 e3
  have HIN : Hid (Ints w base w.heap.size A (n + 1) xs) := Lib.hid ⟨hl, hrd⟩
  obtain ⟨b, o, hx, rfl, _, hbh, hc⟩ := HIN.out.int (Nat.lt_succ_self n)
  have e5 : xs.getD n 0 = xs[n] := by simp [List.getD_eq_getElem?_getD, hx]
  rw [e5]
  generalize xs[n] = x at hc
  rw [hl] at hcell hc1
  rw [hl]
  unfold maxLen at hc2
  have hcp : 0 < c := by omega
  have hnc : (n : Int) ≤ (c : Int) := by omega
  have hn0 : (0 : Int) ≤ (n : Int) := by omega
  clear h hrd e2 e5
  go_enter Try.func109, Try.ntmps109
  go_wp2_with fail
  go_region
  all_goals
    go_wp2_with fail
    go_region
    all_goals
      go_wp2_with fail
      go_ret
      exact ⟨rfl, popEnd HB.out hl⟩

end Go.Proofs.Ytnaeglfochnikaa
