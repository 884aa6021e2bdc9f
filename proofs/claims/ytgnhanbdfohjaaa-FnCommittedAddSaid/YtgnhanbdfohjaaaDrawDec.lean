/-
  The walk of DrawShardDecide: a drawn shard, a drawn transaction and a drawn choice. No condition.
-/
import Derived.Test.YtgnhanbdfohjaaaDrawRuns
namespace Go.Proofs.Ytgnhanbdfohjaaa
set_option linter.unusedVariables false
set_option linter.unusedSimpArgs false
open Go.RowKit

def DrawnRT (w w' : World) (e : Ending) : Prop := ∃ A n c rs t b, ShardIn w w' A n c rs ∧ e = .returned (.tuple #[.agg #[.slice A n c], .int .i64 t, .bool b])

set_option linter.unusedVariables false in
set_option maxRecDepth 100000 in
set_option maxHeartbeats 400000 in
theorem drawShardDecide_any (A : Option Addr) (n c : Nat) (zs : List Int) (w : World) (h : IsRow .u8 w A n c zs) :
    Calls Try.prog 27 #[.slice A n c] w fun e w' => DrawnRT w w' e := by
  have HI := Lib.hid (isRow_below h ((Below.refl _ _).alloc (Nat.le_refl _) (.cells #[.slice none 0 0] 25)) (Nat.le_refl _))
  have hnew := Lib.hid (heap_alloc_new w (.cells #[.slice none 0 0] 25))
  clear h
  go_enter Try.func27, Try.ntmps27
  go_wp2_with fail
  refine (l6Open_any _ _ _ zs _ HI.out).mono ?_
  rintro e w1 ⟨hR1, hb1, hs1, he⟩
  have hsz : (w.alloc (.cells #[.slice none 0 0] 25)).heap.size = w.heap.size + 1 := by simp
  rw [hsz] at hR1 hb1 hs1 he
  subst he
  have HR1 := Lib.hid hR1
  have HB1 : Hid (Below w.heap.size w w1) := ((Below.refl _ _).alloc (Nat.le_refl _) _).trans (hb1.mono (by simp))
  have HX1 : Hid (w1.heap[w.heap.size]? = some (.cells #[.slice none 0 0] 25 (0, 0))) := (hb1.block _ (by omega)).trans hnew.out
  have hs1' : w1.heap.size = w.heap.size + 1 + 1 := hs1
  clear hR1 hb1 hs1 hsz
  go_wp2_with fail
  refine (l92Shard_any (w.heap.size + 1) 0 _ (by omega) HR1.out).mono ?_
  rintro e w2 ⟨A2, n2, c2, rs, hd2, hrec2, hnc2, hcm2, hn31, hn4, hT2, rfl⟩
  have HD2 := Lib.hid hd2
  have HN4 := Lib.hid hn4
  have hlow : w.heap.size + 1 < w1.heap.size := by omega
  have HT2 : Hid (DrawT w1 (w2.alloc (.cells #[.slice A2 n2 c2] 25)) (w.heap.size + 1) 5000) := (hT2.more (by omega)).alloc _
  have HREC2 := Lib.hid (hrec2.alloc (.cells #[.slice A2 n2 c2] 25))
  have hs2 : w1.heap.size ≤ w2.heap.size := hT2.1.size
  have HX6 := Lib.hid (heap_alloc_new w2 (.cells #[.slice A2 n2 c2] 25))
  clear hd2 hrec2 hn4 hT2
  go_wp2_with fail
  refine (l92Txn_any (w.heap.size + 1) 5000 _ (by omega) HT2.out.2).mono ?_
  rintro e w3 ⟨x, hT3, rfl⟩
  have HT3 := Lib.hid (HT2.out.tr hT3)
  have HREC3 := Lib.hid (HREC2.out.grown hT3.1 (fun q hq => by injection hq with hq; omega))
  have h63 := (hT3.1.block _ (by simp) (fun e => by injection e with e; omega)).trans HX6.out
  have HX63 := Lib.hid h63
  have k63 : w3.cell? ⟨w2.heap.size, 0, none⟩ = some (.slice A2 n2 c2) := cell_zero h63
  have h23 : w3.heap[w.heap.size]? = some (.cells #[.slice none 0 0] 25 (0, 0)) := (HT3.out.1.block _ (by omega) (fun e => by injection e with e; omega)).trans HX1.out
  have k23 : w3.cell? ⟨w.heap.size, 0, none⟩ = some (.slice none 0 0) := cell_zero h23
  have f23 : w3.frozen? ⟨w.heap.size, 0, none⟩ = false := frozen_of_row _ _ _ _ _ h23
  have HX23 := Lib.hid h23
  have HRD3 : Hid (Rdr w3.drew (w.heap.size + 1) (5000 + 3)) := HT3.out.2
  have h3l : w2.heap.size < w3.heap.size := heap_lt h63
  clear hT3 h63 h23
  have hne1 : ¬ (w.heap.size = w2.heap.size) := by omega
  have hne2 : ¬ (w2.heap.size = w.heap.size) := by omega
  go_wp2_with fail
  go_region_held3 (fun w' => w'.cell? ⟨w2.heap.size, 0, none⟩ = some (.slice A2 n2 c2)) (go_keep)
    (first | (go_at_call 41; (refine (pick_any (w.heap.size + 1) (5000 + 3) 3 _ (by omega) HRD3.out).mono ?_); rintro e w4 ⟨r4, hr4, hR4, hg4', -, rfl⟩; have hg4 : w3.grownBy w4 (some (w.heap.size + 1)) := ⟨hg4'.os, hg4'.tape, hg4'.output, hg4'.size, hg4'.block⟩; have HT4 : Hid (DrawT w1 w4 (w.heap.size + 1) (5000 + 3 + 1)) := HT3.out.step hg4 hR4; have h64 := (hg4.block _ h3l (fun e => by injection e with e; omega)).trans HX63.out; have k64 : w4.cell? ⟨w2.heap.size, 0, none⟩ = some (.slice A2 n2 c2) := cell_zero h64; have h24 := (hg4.block _ (by omega) (fun e => by injection e with e; omega)).trans HX23.out; have k24 : w4.cell? ⟨w.heap.size, 0, none⟩ = some (.slice none 0 0) := cell_zero h24; have f24 : w4.frozen? ⟨w.heap.size, 0, none⟩ = false := frozen_of_row _ _ _ _ _ h24; have HREC4 := Lib.hid (HREC3.out.grown hg4 (fun q hq => by injection hq with hq; omega)); clear hg4' hg4 h64 h24 hR4 hr4))
  go_wp2_with fail
  have HB4 : Below w.heap.size w w4 := below_draws HB1.out HT4.out (by omega) (by omega)
  exact bodyPost_ret (v := .tuple #[.agg #[.slice A2 n2 c2], .int .i64 x, .bool (decide (0 < r4))]) (by simp [results, Try.results27, go_sem, k24]) rfl ⟨A2, n2, c2, rs, x, _, ⟨HD2.out, (HREC4.out.grown (set_grown _ _ _ _) (fun q hq => by injection hq with hq; omega)).low (by omega), hnc2, hcm2, hn31, HN4.out, HB4.setCell (p := ⟨w.heap.size, 0, none⟩) (Nat.le_refl _) _⟩, rfl⟩

end Go.Proofs.Ytgnhanbdfohjaaa
