/-
  The walks of noRefs, isTxn, release, lock (on free refs) of the program. Condition: four refs.
-/
import Derived.Test.YtgnhanbdfohjaaaSpecC
import Derived.Test.YtgnhanbdfohjaaaK4
import Derived.Test.YtgnhanbdfohjaaaDrawKit
namespace Go.Proofs.Ytgnhanbdfohjaaa
set_option linter.unusedVariables false
set_option linter.unusedSimpArgs false
open Go.RowKit

/-- block g begins with the ints xs; the cells 'rest' stand behind them -/
def TabX (w : World) (g : Nat) (t : TypeId) (xs : List Int) (rest : List Value) : Prop := w.heap[g]? = some (.cells (xs.map (Value.int .i64) ++ rest).toArray t (0, 0))
theorem TabX.lt {w : World} {g : Nat} {t : TypeId} {xs : List Int} {rest : List Value} (h : TabX w g t xs rest) : g < w.heap.size := heap_lt h
theorem TabX.grown {w w' : World} {g : Nat} {t : TypeId} {xs : List Int} {rest : List Value} {row : Option Nat} (h : TabX w g t xs rest) (hg : w.grownBy w' row) (hr : row ≠ some g) : TabX w' g t xs rest :=
  (hg.block g h.lt (fun e => hr e.symm)).trans h
theorem TabX.alloc {w : World} {g : Nat} {t : TypeId} {xs : List Int} {rest : List Value} (h : TabX w g t xs rest) (o : Obj) : TabX (w.alloc o) g t xs rest := h.grown (World.grownBy_alloc w o none) (by simp)
theorem TabX.cell {w : World} {g : Nat} {t : TypeId} {xs : List Int} {rest : List Value} (h : TabX w g t xs rest) {r : Int} (hl : xs.length = 4) (h0 : 0 ≤ r) (h3 : r ≤ 3) :
    w.cell? ⟨g, r.toNat, none⟩ = some (.int .i64 (getR xs r)) ∧ w.frozen? ⟨g, r.toNat, none⟩ = false := by
  refine ⟨?_, frozen_of_row w g _ _ _ h⟩
  rw [cell_of_row w g r.toNat _ _ _ h]
  unfold getR
  have : r.toNat < xs.length := by omega
  rw [List.getElem?_toArray, List.getElem?_append_left (by rw [List.length_map]; exact this)]
  simp [this]
theorem TabX.set {w : World} {g : Nat} {t : TypeId} {xs : List Int} {rest : List Value} (h : TabX w g t xs rest) (r : Nat) (hr : r < xs.length) (x : Int) : TabX (w.setCell ⟨g, r, none⟩ (.int .i64 x)) g t (xs.set r x) rest := by
  unfold TabX
  rw [heap_setCell_same w g r _ _ _ h]
  simp [List.map_set, List.set_append_left, hr]

set_option maxRecDepth 100000 in
set_option maxHeartbeats 800000 in
theorem noRefs_any (w : World) : Calls Try.prog 71 #[] w fun e w' => e = .returned (.agg #[.int .i64 (-1), .int .i64 (-1), .int .i64 (-1), .int .i64 (-1)]) ∧ Below w.heap.size w w' := by
  go_enter Try.func71, Try.ntmps71
  go_wp2_with fail
  refine wp_loop_rounds 5 ?_
  rw [rounds_succ]
  go_wp2_with fail
  rw [rounds_succ]
  go_wp2_with fail
  rw [rounds_succ]
  go_wp2_with fail
  rw [rounds_succ]
  go_wp2_with fail
  rw [rounds_succ]
  go_wp2_with fail
  exact bodyPost_ret (v := .agg #[.int .i64 (-1), .int .i64 (-1), .int .i64 (-1), .int .i64 (-1)]) (by simp [results, Try.results71, go_sem]) rfl ⟨rfl, ((Below.refl _ _).alloc (Nat.le_refl _) _).alloc (by simp) _⟩

set_option maxHeartbeats 400000 in
theorem isTxn_any (n : Int) (w : World) : Calls Try.prog 38 #[.int .i64 n] w fun e w' => e = .returned (.bool (txB n)) ∧ w = w' := by
  go_enter Try.func38, Try.ntmps38
  go_wp2_with (go_at_call 58; refine (inRange_any _ _ _ _).mono ?_; rintro e w' ⟨rfl, rfl⟩)
  go_ret
  exact ⟨rfl, rfl⟩

/-- whether a transaction holds a lock -/
def anyL (xs : List Int) (t : Int) : Bool := xs.any fun n => decide (n = t)
theorem freeL_step {xs : List Int} {k : Nat} (hk : k < xs.length) (t : Int) :
    (freeL (xs.take k) t ++ xs.drop k).set k (if xs[k] = t then -1 else xs[k]) = freeL (xs.take (k + 1)) t ++ xs.drop (k + 1) := by
  have e1 : (freeL (xs.take k) t).length = k := by rw [freeL_len, List.length_take]; omega
  rw [List.take_succ_eq_append_getElem hk]
  have e2 : freeL (xs.take k ++ [xs[k]]) t = freeL (xs.take k) t ++ [if xs[k] = t then -1 else xs[k]] := by unfold freeL; rw [List.map_append]; rfl
  rw [e2, List.set_append_right _ _ (by omega), e1, Nat.sub_self, List.drop_eq_getElem_cons hk, List.set_cons_zero]
  simp
theorem freeL_same {xs : List Int} {k : Nat} (hk : k < xs.length) {t : Int} (h : ¬ xs[k] = t) : freeL (xs.take (k + 1)) t ++ xs.drop (k + 1) = freeL (xs.take k) t ++ xs.drop k := by
  rw [← freeL_step hk t, if_neg h, List.set_append_right _ _ (by rw [freeL_len, List.length_take]; omega), freeL_len, List.length_take, Nat.min_eq_left (by omega), Nat.sub_self, List.drop_eq_getElem_cons hk, List.set_cons_zero]

set_option maxRecDepth 100000 in
set_option maxHeartbeats 1600000 in
theorem release_any (g c : Nat) (et : TypeId) (xs : List Int) (t : Int) (w : World) (hl : xs.length = 4) (h : TabX w g et xs []) :
    Calls Try.prog 102 #[.slice (some ⟨g, 0, none⟩) 4 c, .int .i64 t] w fun e w' => TabX w' g et (freeL xs t) [] ∧ w.grownBy w' (some g) ∧ ∃ b, e = .returned (.bool b) := by
  have HT0 := Lib.hid h
  have HL := Lib.hid hl
  clear h hl
  go_enter Try.func102, Try.ntmps102
  go_wp2_with fail
  go_loopw [5, 10] (fun b i wr => ∃ (k : Nat) (q : Bool), k ≤ 4 ∧ i = .int .i64 k ∧ b = .bool q ∧ TabX wr g et (freeL (xs.take k) t ++ xs.drop k) [] ∧ w.grownBy wr (some g)) (fun _ i _ => 4 - (intOf i).toNat)
  case atStart => exact ⟨0, false, Nat.zero_le _, rfl, rfl, HT0.out, World.grownBy.refl w _⟩
  case round =>
    obtain ⟨k, q, hk, rfl, rfl, ht, hb⟩ := hrel
    have HT := Lib.hid ht
    have HB := Lib.hid hb
    have hgl := ht.lt
    have hzl : (freeL (xs.take k) t ++ xs.drop k).length = 4 := by rw [List.length_append, freeL_len, List.length_take, List.length_drop, HL.out]; omega
    have HZL := Lib.hid hzl
    clear ht hb hzl HT0
    by_cases hlt : k < 4
    · have hkx : k < xs.length := by rw [HL.out]; exact hlt
      have hcf := HT.out.cell (r := (k : Int)) HZL.out (by omega) (by omega)
      have hval : getR (freeL (xs.take k) t ++ xs.drop k) (k : Int) = xs[k] := by
        unfold getR
        rw [Int.toNat_natCast, List.getD_eq_getElem?_getD, List.getElem?_append_right (by rw [freeL_len, List.length_take]; omega), freeL_len, List.length_take, Nat.min_eq_left (by omega), Nat.sub_self, List.getElem?_drop]
        simp [hkx]
      rw [hval] at hcf
      have hc : wr.cell? ⟨g, k, none⟩ = some (.int .i64 xs[k]) := by simpa using hcf.1
      have hf : wr.frozen? ⟨g, k, none⟩ = false := by simpa using hcf.2
      have hst := HT.out.set k (by rw [HZL.out]; exact hlt) (-1)
      have hstep := freeL_step hkx t
      rcases Decidable.em (xs[k] = t) with he | he
      · rw [if_pos he] at hstep
        rw [hstep] at hst
        have HST := Lib.hid hst
        clear hst hstep hval hcf
        go_wp2_with fail
        exact ⟨⟨k + 1, true, by omega, by go_num, rfl, HST.out, grown_tr HB.out (set_grown _ _ _ _)⟩, by simp [intOf]; omega⟩
      · have hs := Lib.hid (freeL_same hkx he)
        have hd : (xs[k] == t) = false := by simpa using he
        clear hst hstep hval hcf he
        go_wp2_with fail
        exact ⟨⟨k + 1, q, by omega, by go_num, rfl, by rw [hs.out]; exact HT.out, HB.out⟩, by simp [intOf]; omega⟩
    · have hk4 : k = 4 := by omega
      subst hk4
      have hT := HT.out
      rw [List.take_of_length_le (by rw [HL.out]; exact Nat.le_refl _), List.drop_eq_nil_of_le (by rw [HL.out]; exact Nat.le_refl _), List.append_nil] at hT
      have HT4 := Lib.hid hT
      clear hT
      go_wp2_with fail
      go_ret
      exact ⟨HT4.out, HB.out, q, rfl⟩

end Go.Proofs.Ytgnhanbdfohjaaa
