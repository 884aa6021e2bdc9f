/-
  The walks of DrawShardValid, DrawShardRecover, DrawShardCommitted and DrawShardDecide: a drawn shard in new memory. No condition.
-/
import Derived.Test.YtgnhanbdfohjaaaCalm
namespace Go.Proofs.Ytgnhanbdfohjaaa
set_option linter.unusedVariables false
set_option linter.unusedSimpArgs false
open Go.RowKit

theorem isRow_below {k : IntKind} {w w' : World} {C : Nat} {a : Option Addr} {len cap : Nat} {zs : List Int} (h : IsRow k w a len cap zs) (hb : Below C w w') (hC : w.heap.size ≤ C) : IsRow k w' a len cap zs := by
  rcases h with h | ⟨x, rfl, h1, h2, hz, hc, hw⟩
  · exact .inl h
  · refine .inr ⟨x, rfl, h1, h2, hz, fun i hi => ?_, hw⟩
    have := hc i hi
    exact (hb.cell (Nat.lt_of_lt_of_le (World.block_lt_of_cell? w _ this) hC)).trans this
theorem below_draws {C : Nat} {w wr w' : World} {g K : Nat} (hb : Below C w wr) (hd : DrawT wr w' g K) (hC : C ≤ g) (hs : C ≤ wr.heap.size) : Below C w w' :=
  hb.grown hd.1 hs (fun q hq => by injection hq with hq; omega)
/-- a drawn shard in new memory -/
def ShardIn (w w' : World) (A : Option Addr) (n c : Nat) (rs : List RecC) : Prop :=
  DrawnL (abs rs) ∧ Recs w' w.heap.size A n rs ∧ n ≤ c ∧ c ≤ 9223372036854775807 ∧ n ≤ 31 ∧ (∀ r ∈ rs, r.n ≤ 4) ∧ Below w.heap.size w w'
def DrawnR (w w' : World) (e : Ending) : Prop := ∃ A n c rs, ShardIn w w' A n c rs ∧ e = .returned (.agg #[.slice A n c])

set_option linter.unusedVariables false in
set_option maxRecDepth 100000 in
set_option maxHeartbeats 400000 in
theorem drawShardCommitted_any (A : Option Addr) (n c : Nat) (zs : List Int) (w : World) (h : IsRow .u8 w A n c zs) :
    Calls Try.prog 22 #[.slice A n c] w fun e w' => DrawnR w w' e := by
  have HI := Lib.hid (isRow_below h ((Below.refl _ _).alloc (Nat.le_refl _) (.cells #[.slice none 0 0] 25)) (Nat.le_refl _))
  have hnew := Lib.hid (heap_alloc_new w (.cells #[.slice none 0 0] 25))
  clear h
  go_enter Try.func22, Try.ntmps22
  go_wp2_with fail
  refine (l6Open_any _ _ _ zs _ HI.out).mono ?_
  rintro e w1 ⟨hR1, hb1, hs1, he⟩
  have hsz : (w.alloc (.cells #[.slice none 0 0] 25)).heap.size = w.heap.size + 1 := by simp
  rw [hsz] at hR1 hb1 hs1 he
  subst he
  have HR1 := Lib.hid hR1
  have HB1 : Hid (Below w.heap.size w w1) := ((Below.refl _ _).alloc (Nat.le_refl _) _).trans (hb1.mono (by simp))
  have HX1 : Hid (w1.heap[w.heap.size]? = some (.cells #[.slice none 0 0] 25 (0, 0))) := (hb1.block _ (by omega)).trans hnew.out
  have hs1' : w1.heap.size = w.heap.size + 1 + 1 := hs1
  clear hR1 hb1 hs1 hsz
  go_wp2_with fail
  refine (l92Shard_any (w.heap.size + 1) 0 _ (by omega) HR1.out).mono ?_
  rintro e w2 ⟨A2, n2, c2, rs, hd2, hrec2, hnc2, hcm2, hn31, hn4, hT2, rfl⟩
  have HD2 := Lib.hid hd2
  have HREC2 := Lib.hid hrec2
  have HN4 := Lib.hid hn4
  have hlow : w.heap.size + 1 ≤ w1.heap.size := by omega
  have HB2 : Hid (Below w.heap.size w w2) := below_draws HB1.out hT2 (by omega) (by omega)
  have hx2 : w2.heap[w.heap.size]? = some (.cells #[.slice none 0 0] 25 (0, 0)) := (hT2.1.block _ (by omega) (fun e => by injection e with e; omega)).trans HX1.out
  have k2 : w2.cell? ⟨w.heap.size, 0, none⟩ = some (.slice none 0 0) := cell_zero hx2
  have f2 : w2.frozen? ⟨w.heap.size, 0, none⟩ = false := frozen_of_row _ _ _ _ _ hx2
  clear hd2 hrec2 hn4 hT2 hx2
  go_wp2_with fail
  exact bodyPost_ret (v := .agg #[.slice A2 n2 c2]) (by simp [results, Try.results22, go_sem, k2]) rfl ⟨A2, n2, c2, rs, ⟨HD2.out, (HREC2.out.grown (set_grown _ _ _ _) (fun q hq => by injection hq with hq; omega)).low (by omega), hnc2, hcm2, hn31, HN4.out, HB2.out.setCell (p := ⟨w.heap.size, 0, none⟩) (Nat.le_refl _) _⟩, rfl⟩

set_option linter.unusedVariables false in
set_option maxRecDepth 100000 in
set_option maxHeartbeats 400000 in
theorem drawShardRecover_any (A : Option Addr) (n c : Nat) (zs : List Int) (w : World) (h : IsRow .u8 w A n c zs) :
    Calls Try.prog 18 #[.slice A n c] w fun e w' => DrawnR w w' e := by
  have HI := Lib.hid (isRow_below h ((Below.refl _ _).alloc (Nat.le_refl _) (.cells #[.slice none 0 0] 25)) (Nat.le_refl _))
  have hnew := Lib.hid (heap_alloc_new w (.cells #[.slice none 0 0] 25))
  clear h
  go_enter Try.func18, Try.ntmps18
  go_wp2_with fail
  refine (l6Open_any _ _ _ zs _ HI.out).mono ?_
  rintro e w1 ⟨hR1, hb1, hs1, he⟩
  have hsz : (w.alloc (.cells #[.slice none 0 0] 25)).heap.size = w.heap.size + 1 := by simp
  rw [hsz] at hR1 hb1 hs1 he
  subst he
  have HR1 := Lib.hid hR1
  have HB1 : Hid (Below w.heap.size w w1) := ((Below.refl _ _).alloc (Nat.le_refl _) _).trans (hb1.mono (by simp))
  have HX1 : Hid (w1.heap[w.heap.size]? = some (.cells #[.slice none 0 0] 25 (0, 0))) := (hb1.block _ (by omega)).trans hnew.out
  have hs1' : w1.heap.size = w.heap.size + 1 + 1 := hs1
  clear hR1 hb1 hs1 hsz
  go_wp2_with fail
  refine (l92Shard_any (w.heap.size + 1) 0 _ (by omega) HR1.out).mono ?_
  rintro e w2 ⟨A2, n2, c2, rs, hd2, hrec2, hnc2, hcm2, hn31, hn4, hT2, rfl⟩
  have HD2 := Lib.hid hd2
  have HREC2 := Lib.hid hrec2
  have HN4 := Lib.hid hn4
  have hlow : w.heap.size + 1 ≤ w1.heap.size := by omega
  have HB2 : Hid (Below w.heap.size w w2) := below_draws HB1.out hT2 (by omega) (by omega)
  have hx2 : w2.heap[w.heap.size]? = some (.cells #[.slice none 0 0] 25 (0, 0)) := (hT2.1.block _ (by omega) (fun e => by injection e with e; omega)).trans HX1.out
  have k2 : w2.cell? ⟨w.heap.size, 0, none⟩ = some (.slice none 0 0) := cell_zero hx2
  have f2 : w2.frozen? ⟨w.heap.size, 0, none⟩ = false := frozen_of_row _ _ _ _ _ hx2
  clear hd2 hrec2 hn4 hT2 hx2
  go_wp2_with fail
  exact bodyPost_ret (v := .agg #[.slice A2 n2 c2]) (by simp [results, Try.results18, go_sem, k2]) rfl ⟨A2, n2, c2, rs, ⟨HD2.out, (HREC2.out.grown (set_grown _ _ _ _) (fun q hq => by injection hq with hq; omega)).low (by omega), hnc2, hcm2, hn31, HN4.out, HB2.out.setCell (p := ⟨w.heap.size, 0, none⟩) (Nat.le_refl _) _⟩, rfl⟩

set_option linter.unusedVariables false in
set_option maxRecDepth 100000 in
set_option maxHeartbeats 400000 in
theorem drawShardValid_any (A : Option Addr) (n c : Nat) (zs : List Int) (w : World) (h : IsRow .u8 w A n c zs) :
    Calls Try.prog 13 #[.slice A n c] w fun e w' => DrawnR w w' e := by
  have HI := Lib.hid (isRow_below h ((Below.refl _ _).alloc (Nat.le_refl _) (.cells #[.slice none 0 0] 25)) (Nat.le_refl _))
  have hnew := Lib.hid (heap_alloc_new w (.cells #[.slice none 0 0] 25))
  clear h
  go_enter Try.func13, Try.ntmps13
  go_wp2_with fail
  refine (l6Open_any _ _ _ zs _ HI.out).mono ?_
  rintro e w1 ⟨hR1, hb1, hs1, he⟩
  have hsz : (w.alloc (.cells #[.slice none 0 0] 25)).heap.size = w.heap.size + 1 := by simp
  rw [hsz] at hR1 hb1 hs1 he
  subst he
  have HR1 := Lib.hid hR1
  have HB1 : Hid (Below w.heap.size w w1) := ((Below.refl _ _).alloc (Nat.le_refl _) _).trans (hb1.mono (by simp))
  have HX1 : Hid (w1.heap[w.heap.size]? = some (.cells #[.slice none 0 0] 25 (0, 0))) := (hb1.block _ (by omega)).trans hnew.out
  have hs1' : w1.heap.size = w.heap.size + 1 + 1 := hs1
  clear hR1 hb1 hs1 hsz
  go_wp2_with fail
  refine (l92Shard_any (w.heap.size + 1) 0 _ (by omega) HR1.out).mono ?_
  rintro e w2 ⟨A2, n2, c2, rs, hd2, hrec2, hnc2, hcm2, hn31, hn4, hT2, rfl⟩
  have HD2 := Lib.hid hd2
  have HREC2 := Lib.hid hrec2
  have HN4 := Lib.hid hn4
  have hlow : w.heap.size + 1 ≤ w1.heap.size := by omega
  have HB2 : Hid (Below w.heap.size w w2) := below_draws HB1.out hT2 (by omega) (by omega)
  have hx2 : w2.heap[w.heap.size]? = some (.cells #[.slice none 0 0] 25 (0, 0)) := (hT2.1.block _ (by omega) (fun e => by injection e with e; omega)).trans HX1.out
  have k2 : w2.cell? ⟨w.heap.size, 0, none⟩ = some (.slice none 0 0) := cell_zero hx2
  have f2 : w2.frozen? ⟨w.heap.size, 0, none⟩ = false := frozen_of_row _ _ _ _ _ hx2
  clear hd2 hrec2 hn4 hT2 hx2
  go_wp2_with fail
  exact bodyPost_ret (v := .agg #[.slice A2 n2 c2]) (by simp [results, Try.results13, go_sem, k2]) rfl ⟨A2, n2, c2, rs, ⟨HD2.out, (HREC2.out.grown (set_grown _ _ _ _) (fun q hq => by injection hq with hq; omega)).low (by omega), hnc2, hcm2, hn31, HN4.out, HB2.out.setCell (p := ⟨w.heap.size, 0, none⟩) (Nat.le_refl _) _⟩, rfl⟩

end Go.Proofs.Ytgnhanbdfohjaaa
