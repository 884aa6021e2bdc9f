/-
  The walks of RefsApply, of the program and of the reference: new memory that holds applyL of the refs and the updates. Condition: lengths fit an int64.
-/
import Derived.Test.YtgnhanbdfohjaaaRefsV
import Derived.Test.YtgnhanbdfohjaaaK4
import Derived.Test.YtgnhanbdfohjaaaK3
import Derived.Test.YtgnhanbdfohjaaaK2
import Derived.StillTailTactics
namespace Go.Proofs.Ytgnhanbdfohjaaa
set_option linter.unusedVariables false
set_option linter.unusedSimpArgs false
open Go.RowKit

/-- block g holds just these ints -/
def Tab (w : World) (g : Nat) (xs : List Int) : Prop := w.heap[g]? = some (.cells (xs.map (Value.int .i64)).toArray 60 (0, 0))
theorem new_cell (w : World) (cs : Array Value) (e : TypeId) (j : Nat) : (w.alloc (.cells cs e)).cell? ⟨w.heap.size, j, none⟩ = cs[j]? := cell_of_row _ _ _ _ _ _ (heap_alloc_new w _)
theorem Tab.lt {w : World} {g : Nat} {xs : List Int} (h : Tab w g xs) : g < w.heap.size := by
  unfold Tab at h
  rcases Nat.lt_or_ge g w.heap.size with hlt | hge
  · exact hlt
  · rw [Array.getElem?_eq_none hge] at h; cases h
theorem Tab.grown {w w' : World} {g : Nat} {xs : List Int} {row : Option Nat} (h : Tab w g xs) (hg : w.grownBy w' row) (hr : row ≠ some g) : Tab w' g xs :=
  (hg.block g h.lt (fun e => hr e.symm)).trans h
theorem Tab.alloc {w : World} {g : Nat} {xs : List Int} (h : Tab w g xs) (o : Obj) : Tab (w.alloc o) g xs := h.grown (World.grownBy_alloc w o none) (by simp)
theorem Tab.drewN {w : World} {g : Nat} {xs : List Int} (h : Tab w g xs) (n : Nat) : Tab (w.drewN n) g xs := h
theorem Tab.cell {w : World} {g : Nat} {xs : List Int} (h : Tab w g xs) {r : Int} (hl : xs.length = 4) (h0 : 0 ≤ r) (h3 : r ≤ 3) :
    w.cell? ⟨g, r.toNat, none⟩ = some (.int .i64 (getR xs r)) ∧ w.frozen? ⟨g, r.toNat, none⟩ = false := by
  refine ⟨?_, frozen_of_row w g _ _ _ h⟩
  rw [cell_of_row w g r.toNat _ _ _ h]
  unfold getR
  have : r.toNat < xs.length := by omega
  simp [this]
theorem Tab.set {w : World} {g : Nat} {xs : List Int} (h : Tab w g xs) (r : Int) (x : Int) : Tab (w.setCell ⟨g, r.toNat, none⟩ (.int .i64 x)) g (xs.set r.toNat x) := by
  unfold Tab
  rw [heap_setCell_same w g r.toNat _ _ _ h]
  simp [List.map_set]
theorem grown_alloc' {a b : World} {row : Option Nat} (h : a.grownBy b row) (o : Obj) : a.grownBy (b.alloc o) row :=
  ⟨h.os, h.tape, h.output, Nat.le_trans h.size (by simp), fun i hi hne => (Below.heap_alloc b o i (Nat.lt_of_lt_of_le hi h.size)).trans (h.block i hi hne)⟩
theorem grown_set {a b : World} {g : Nat} (h : a.grownBy b (some g)) (j : Nat) (u : Value) : a.grownBy (b.setCell ⟨g, j, none⟩ u).drew (some g) :=
  ⟨h.os, h.tape, h.output, by simpa [World.setCell] using h.size, fun i hi hne => (Below.heap_setCell b _ u i (fun e => hne (by rw [e]))).trans (h.block i hi hne)⟩
theorem Tab.own {w : World} {base g : Nat} {xs : List Int} (h : Tab w g xs) (hb : base ≤ g) (hl : xs.length = 4) : w.ownsRow base 60 1 (.slice (some ⟨g, 0, none⟩) 4 4) 4 (xs.flatMap ci) := by
  refine ⟨by rw [flat_ci, List.length_map, hl], .inr ⟨g, 4, _, rfl, hb, h, Nat.le_refl _, by unfold maxLen; omega, by simp [hl], ?_⟩⟩
  rw [flat_ci]
  simp only [Nat.mul_one]
  exact List.take_of_length_le (by rw [List.length_map, hl]; exact Nat.le_refl _)

set_option maxRecDepth 100000 in
set_option maxHeartbeats 800000 in
theorem set_any (g : Nat) (A : Option Addr) (n c : Nat) (us : List Upd) (xs : List Int) (w : World) (lo hi : Nat) (hg : hi ≤ g) (hn : n ≤ 9223372036854775807) (hl : xs.length = 4) (hr : ∀ u ∈ us, 0 ≤ u.ref ∧ u.ref ≤ 3) (ht : Tab w g xs) (h : Fl cu w lo hi A n us) :
    Calls Try.prog 68 #[.pointer (some ⟨g, 0, none⟩), .slice A n c] w fun e w' => e = .returned (.tuple #[]) ∧ Tab w' g (setR xs us) ∧ w.grownBy w' (some g) := by
  have HI := Lib.hid h
  have HR := Lib.hid hr
  have hgl := ht.lt
  have HT0 := Lib.hid ht
  clear h hr ht
  go_enter Try.func68, Try.ntmps68
  go_wp2_with fail
  go_loopw [8] (fun i wr => ∃ k : Nat, k ≤ n ∧ i = .int .i64 k ∧ Tab wr g (setR xs (us.take k)) ∧ w.grownBy wr (some g)) (fun i _ => n - (intOf i).toNat)
  case atStart => exact ⟨0, Nat.zero_le _, rfl, HT0.out, World.grownBy.refl w _⟩
  case round =>
    obtain ⟨k, hk, rfl, ht, hb⟩ := hrel
    have HT := Lib.hid ht
    have HB := Lib.hid hb
    have hwsz := hb.size
    have hgr := ht.lt
    clear ht hb
    by_cases hlt : k < n
    · obtain ⟨b, o, hll, rfl, _, hbh, hc0, hc1, hc2⟩ := fl_upd (HI.out.grown HB.out (by omega) (fun q hq => by injection hq with hq; omega)) hlt
      have hru := HR.out us[k] (List.getElem_mem hll)
      have hr0 := hru.1
      have hr3 := hru.2
      clear hru
      have hlk : (setR xs (us.take k)).length = 4 := by rw [setR_len]; exact hl
      have hcell := fun ob : Obj => (HT.out.alloc ob).cell hlk hr0 hr3
      have hst := fun ob : Obj => (HT.out.alloc ob).drewN 1 |>.set us[k].ref us[k].new_
      rw [show (setR xs (us.take k)).set us[k].ref.toNat us[k].new_ = setR xs (us.take (k + 1)) from by rw [List.take_succ_eq_append_getElem hll]; unfold setR; rw [List.foldl_append]; rfl] at hst
      obtain ⟨q, hq⟩ := Int.eq_ofNat_of_zero_le hr0
      rw [hq] at hcell hst hc0 hr3
      have hq3 : q ≤ 3 := by omega
      have hq4 : (q : Int) < 4 := by omega
      clear hq hr3 hr0
      go_wp2_with fail
      have f0 := new_cell wr #[.int .i64 q, .int .i64 us[k].old, .int .i64 us[k].new_] 87 0
      have f2 := new_cell wr #[.int .i64 q, .int .i64 us[k].old, .int .i64 us[k].new_] 87 2
      have hc := hcell (.cells #[.int .i64 q, .int .i64 us[k].old, .int .i64 us[k].new_] 87)
      have hst2 := hst (.cells #[.int .i64 q, .int .i64 us[k].old, .int .i64 us[k].new_] 87)
      have hgw := grown_alloc' HB.out (.cells #[.int .i64 q, .int .i64 us[k].old, .int .i64 us[k].new_] 87)
      clear hcell hst
      generalize wr.alloc (.cells #[.int .i64 q, .int .i64 us[k].old, .int .i64 us[k].new_] 87) = W at *
      have f0' : W.cell? ⟨wr.heap.size, 0, none⟩ = some (.int .i64 q) := f0
      have f2' : W.cell? ⟨wr.heap.size, 2, none⟩ = some (.int .i64 us[k].new_) := f2
      have hcl : W.cell? ⟨g, q, none⟩ = some (.int .i64 (getR (setR xs (us.take k)) q)) := hc.1
      have hfz : W.frozen? ⟨g, q, none⟩ = false := hc.2
      have HST : Hid (Tab ((W.drewN 1).setCell ⟨g, q, none⟩ (.int .i64 us[k].new_)) g (setR xs (us.take (k + 1)))) := hst2
      have HGW := Lib.hid hgw
      clear f0 f2 hc hst2 hgw
      go_still_tail 7, (by kernel_rfl)
      change wpList _ _ _ _ _ W.drew
      go_wp2_with fail
      exact ⟨⟨k + 1, by omega, by go_num, HST.out, (grown_set HGW.out q _)⟩, by simp [intOf]; omega⟩
    · have hkn : k = n := by omega
      subst hkn
      go_wp2_with fail
      go_end0
      refine ⟨rfl, ?_, HB.out⟩
      have := HT.out
      rwa [List.take_of_length_le (by rw [HI.out.1]; exact Nat.le_refl _)] at this

/-- refs behind updates that were tried -/
def appR (xs : List Int) (us : List Upd) : List Int := if fitsR xs us = true then setR xs us else xs
theorem appR_yes {xs : List Int} {us : List Upd} (h : fitsR xs us = true) : appR xs us = setR xs us := by unfold appR; rw [if_pos h]
theorem appR_no {xs : List Int} {us : List Upd} (h : fitsR xs us = false) : appR xs us = xs := by unfold appR; rw [h]; rfl
theorem fits_take_succ {xs : List Int} {us : List Upd} {k : Nat} (hk : k < us.length) (h : fitsR xs (us.take k) = true) (hu : getR xs us[k].ref = us[k].old) : fitsR xs (us.take (k + 1)) = true := by
  unfold fitsR at h ⊢
  rw [List.take_succ_eq_append_getElem hk, List.all_append, h]
  simp [hu]
theorem fits_at {xs : List Int} {us : List Upd} {k : Nat} (hk : k < us.length) (hu : ¬ getR xs us[k].ref = us[k].old) : fitsR xs us = false := by
  rw [← Bool.not_eq_true]
  intro h
  exact hu ((fitsR_iff xs us).1 h _ (List.getElem_mem hk))

set_option maxRecDepth 100000 in
set_option maxHeartbeats 1600000 in
theorem apply_any (g : Nat) (A : Option Addr) (n c : Nat) (us : List Upd) (xs : List Int) (w : World) (lo hi : Nat) (hg : hi ≤ g) (hn : n ≤ 9223372036854775807) (hl : xs.length = 4) (hr : ∀ u ∈ us, 0 ≤ u.ref ∧ u.ref ≤ 3) (ht : Tab w g xs) (h : Fl cu w lo hi A n us) :
    Calls Try.prog 52 #[.pointer (some ⟨g, 0, none⟩), .slice A n c] w fun e w' => Tab w' g (appR xs us) ∧ w.grownBy w' (some g) ∧ e = .returned (.bool (fitsR xs us)) := by
  have HI := Lib.hid h
  have HR := Lib.hid hr
  have hgl := ht.lt
  have HT0 := Lib.hid ht
  clear h hr ht
  go_enter Try.func52, Try.ntmps52
  go_wp2_with fail
  go_loopw [9] (fun i wr => ∃ k : Nat, k ≤ n ∧ i = .int .i64 k ∧ fitsR xs (us.take k) = true ∧ Tab wr g xs ∧ w.grownBy wr (some g)) (fun i _ => n - (intOf i).toNat)
  case atStart => exact ⟨0, Nat.zero_le _, rfl, rfl, HT0.out, World.grownBy.refl w _⟩
  case round =>
    obtain ⟨k, hk, rfl, hf, ht, hb⟩ := hrel
    have HT := Lib.hid ht
    have HB := Lib.hid hb
    have HF := Lib.hid hf
    have hwsz := hb.size
    have hgr := ht.lt
    clear ht hb hf
    by_cases hlt : k < n
    · obtain ⟨b, o, hll, rfl, _, hbh, hc0, hc1, hc2⟩ := fl_upd (HI.out.grown HB.out (by omega) (fun q hq => by injection hq with hq; omega)) hlt
      have hru := HR.out us[k] (List.getElem_mem hll)
      have hr0 := hru.1
      have hr3 := hru.2
      clear hru
      have hcell := fun ob : Obj => ((HT.out.alloc ob).cell hl hr0 hr3).1
      have hcase : getR xs us[k].ref = us[k].old ∨ ¬ getR xs us[k].ref = us[k].old := Decidable.em _
      have hnext : Hid (getR xs us[k].ref = us[k].old → fitsR xs (us.take (k + 1)) = true) := fun h => fits_take_succ hll HF.out h
      have hstop : Hid (¬ getR xs us[k].ref = us[k].old → fitsR xs us = false) := fun h => fits_at hll h
      obtain ⟨q, hq⟩ := Int.eq_ofNat_of_zero_le hr0
      rw [hq] at hcell hc0 hr3 hcase hnext hstop
      have hq3 : q ≤ 3 := by omega
      have hq4 : (q : Int) < 4 := by omega
      clear hq hr3 hr0
      go_wp2_with fail
      have f0 := new_cell wr #[.int .i64 q, .int .i64 us[k].old, .int .i64 us[k].new_] 87 0
      have f1 := new_cell wr #[.int .i64 q, .int .i64 us[k].old, .int .i64 us[k].new_] 87 1
      have hc := hcell (.cells #[.int .i64 q, .int .i64 us[k].old, .int .i64 us[k].new_] 87)
      have ht2 := HT.out.alloc (.cells #[.int .i64 q, .int .i64 us[k].old, .int .i64 us[k].new_] 87)
      have hgw := grown_alloc' HB.out (.cells #[.int .i64 q, .int .i64 us[k].old, .int .i64 us[k].new_] 87)
      clear hcell
      generalize wr.alloc (.cells #[.int .i64 q, .int .i64 us[k].old, .int .i64 us[k].new_] 87) = W at *
      have f0' : W.cell? ⟨wr.heap.size, 0, none⟩ = some (.int .i64 q) := f0
      have f1' : W.cell? ⟨wr.heap.size, 1, none⟩ = some (.int .i64 us[k].old) := f1
      have hcl : W.cell? ⟨g, q, none⟩ = some (.int .i64 (getR xs q)) := hc
      have HT2 := Lib.hid ht2
      have HGW := Lib.hid hgw
      clear f0 f1 hc ht2 hgw
      rcases hcase with hcase | hcase
      · have hnx := Lib.hid (hnext.out hcase)
        clear hnext hstop
        go_quiet (fail)
        go_wp2_with fail
        exact ⟨⟨k + 1, by omega, by go_num, hnx.out, HT2.out, ⟨HGW.out.os, HGW.out.tape, HGW.out.output, HGW.out.size, HGW.out.block⟩⟩, by simp [intOf]; omega⟩
      · have hst := Lib.hid (hstop.out hcase)
        clear hnext hstop
        go_quiet (fail)
        go_wp2_with fail
        go_ret
        exact ⟨by rw [appR_no hst.out]; exact HT2.out, ⟨HGW.out.os, HGW.out.tape, HGW.out.output, HGW.out.size, HGW.out.block⟩, ret_bool hst.out.symm⟩
    · have hkn : k = n := by omega
      subst hkn
      have hfa : Hid (fitsR xs us = true) := by
        have := HF.out
        rwa [List.take_of_length_le (by rw [HI.out.1]; exact Nat.le_refl _)] at this
      go_wp2_with fail
      refine (set_any g A k c us xs _ lo hi hg hn hl HR.out HT.out (HI.out.grown HB.out (by omega) (fun q hq => by injection hq with hq; omega))).mono ?_
      rintro e w2 ⟨rfl, ht2, hg2⟩
      have HT2 := Lib.hid ht2
      have HG2 := Lib.hid hg2
      clear ht2 hg2
      go_wp2_with fail
      go_ret
      refine ⟨by rw [appR_yes hfa.out]; exact HT2.out, ?_, ret_bool hfa.out.symm⟩
      exact ⟨HG2.out.os.trans HB.out.os, HG2.out.tape.trans HB.out.tape, HG2.out.output.trans HB.out.output, Nat.le_trans HB.out.size HG2.out.size, fun i hi hne => (HG2.out.block i (Nat.lt_of_lt_of_le hi HB.out.size) hne).trans (HB.out.block i hi hne)⟩

end Go.Proofs.Ytgnhanbdfohjaaa
