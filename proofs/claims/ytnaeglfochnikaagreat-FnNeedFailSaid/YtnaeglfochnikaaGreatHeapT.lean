/-
  The heap's own Pop. Condition: lengths fit an int64; the heap is not empty.
-/
import Derived.Test.YtnaeglfochnikaaGreatZ11
namespace Go.Proofs.YtnaeglfochnikaaGreat
set_option linter.unusedVariables false
set_option linter.unusedSimpArgs false
open Go.RowKit

theorem own_prefix {w : World} {base n c : Nat} {e : TypeId} {A : Option Addr} {cs : List Value} (h : w.ownsRow base e 1 (.slice A (n + 1) c) (n + 1) cs) : w.ownsRow base e 1 (.slice A n c) n (cs.take n) := by
  have hl := h.1
  refine ⟨by rw [List.length_take]; omega, ?_⟩
  rcases h.2 with ⟨e1, h2⟩ | ⟨g, cap, cur, e1, h3, h4, h5, h6, h7, h8⟩
  · omega
  · injection e1 with e1 e2 e3
    subst e1 e3
    refine .inr ⟨g, c, cur, rfl, h3, h4, by omega, h6, h7, ?_⟩
    rw [← h8, List.take_take]
    congr 1
    omega
theorem popEnd {xs : List Int} {base H n c b o : Nat} {w : World} (h : HeapB w base H (.slice (some ⟨b, o, none⟩) xs.length c) xs) (hl : xs.length = n + 1) :
    ∃ v', HeapB ((w.setCell ⟨H, 0, none⟩ (.slice (some ⟨b, o, none⟩) n c)).drew.drew) base H v' (xs.take n) ∧ HKeep w ((w.setCell ⟨H, 0, none⟩ (.slice (some ⟨b, o, none⟩) n c)).drew.drew) H (.slice (some ⟨b, o, none⟩) (n + 1) c) ∧ v'.ownBlock = (Value.slice (some ⟨b, o, none⟩) (n + 1) c).ownBlock := by
  obtain ⟨h1, h2, h3⟩ := h
  rw [hl] at h2
  have hgs := Lib.grownBy_setCell w H 0 (.slice (some ⟨b, o, none⟩) n c)
  have hci : ∀ ys : List Int, ys.flatMap ci = ys.map fun x => Value.int .i64 x := fun ys => by
    induction ys with
    | nil => rfl
    | cons y ys ih => rw [List.flatMap_cons, ih]; rfl
  have hp := own_prefix h2
  have e : (xs.flatMap ci).take n = (xs.take n).flatMap ci := by rw [hci, hci, List.map_take]
  rw [e] at hp
  refine ⟨.slice (some ⟨b, o, none⟩) n c, ⟨?_, ?_, fun g hg => h3 g hg⟩, ⟨hgs.os, hgs.tape, hgs.output, hgs.size, fun k hk hkH _ => ?_⟩, rfl⟩
  · show (World.setCell _ _ _).heap[H]? = _
    rw [heap_setCell_same w H 0 _ _ _ h1]; rfl
  · rw [List.length_take, Nat.min_eq_left (by omega)]
    have h9 := hp.kept hgs (ownNe fun g hg (e : some H = some g) => by injection e with e; exact h3 g hg e.symm)
    exact h9
  · exact hgs.block k hk (fun e => by injection e with e; exact hkH e)
set_option maxRecDepth 100000 in
set_option maxHeartbeats 1600000 in
theorem heapPopM_any (xs : List Int) (base H n : Nat) (v : Value) (w : World) (hl : xs.length = n + 1) (hn : n ≤ 1000) (h : HeapB w base H v xs) :
    Calls Tryz.prog 146 #[.pointer (some ⟨H, 0, none⟩)] w fun e w' => e = .returned (.iface 3 (.int .i64 (xs.getD n 0))) ∧ ∃ v', HeapB w' base H v' (xs.take n) ∧ HKeep w w' H v ∧ v'.ownBlock = v.ownBlock := by
  have HB := Lib.hid h
  obtain ⟨A, c, rfl⟩ := h.shape
  have hcell := h.cell
  have hfz : w.frozen? ⟨H, 0, none⟩ = false := frozen_of_row w H 0 _ _ h.1
  obtain ⟨A', c', e1, hc1, hc2, hrd⟩ := Rd.of_own h.2.1
  injection e1 with e1 e2 e3
  subst e1 e3
  have HIN : Hid (Ints w base w.heap.size A (n + 1) xs) := Lib.hid ⟨hl, hrd⟩
  obtain ⟨b, o, hx, rfl, _, hbh, hc⟩ := HIN.out.int (Nat.lt_succ_self n)
  have e5 : xs.getD n 0 = xs[n] := by simp [List.getD_eq_getElem?_getD, hx]
  rw [e5]
  generalize xs[n] = x at hc
  rw [hl] at hcell hc1
  rw [hl]
  unfold maxLen at hc2
  have hcp : 0 < c := by omega
  have hnc : (n : Int) ≤ (c : Int) := by omega
  have hn0 : (0 : Int) ≤ (n : Int) := by omega
  clear h hrd e2 e5
  go_enter Tryz.func146, Tryz.ntmps146
  go_wp2_with fail
  go_region
  all_goals
    go_wp2_with fail
    go_region
    all_goals
      go_wp2_with fail
      go_ret
      exact ⟨rfl, popEnd HB.out hl⟩

end Go.Proofs.YtnaeglfochnikaaGreat
