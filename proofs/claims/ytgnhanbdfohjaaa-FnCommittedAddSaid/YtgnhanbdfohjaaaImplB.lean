/-
  The walks of refTable.set behind a pointer into any block, and of lock on free refs. Condition: four refs; updates within them.
-/
import Derived.Test.YtgnhanbdfohjaaaImplA
namespace Go.Proofs.Ytgnhanbdfohjaaa
set_option linter.unusedVariables false
set_option linter.unusedSimpArgs false
open Go.RowKit

theorem TabX.drew {w : World} {g : Nat} {t : TypeId} {xs : List Int} {rest : List Value} (h : TabX w g t xs rest) : TabX w.drew g t xs rest := h

set_option maxRecDepth 100000 in
set_option maxHeartbeats 800000 in
theorem setX_any (g : Nat) (et : TypeId) (rest : List Value) (A : Option Addr) (n c : Nat) (us : List Upd) (xs : List Int) (w : World) (lo hi : Nat) (hg : hi ≤ g) (hn : n ≤ 9223372036854775807) (hl : xs.length = 4) (hr : ∀ u ∈ us, 0 ≤ u.ref ∧ u.ref ≤ 3) (ht : TabX w g et xs rest) (h : Fl cu w lo hi A n us) :
    Calls Try.prog 68 #[.pointer (some ⟨g, 0, none⟩), .slice A n c] w fun e w' => e = .returned (.tuple #[]) ∧ TabX w' g et (setR xs us) rest ∧ w.grownBy w' (some g) := by
  have HI := Lib.hid h
  have HR := Lib.hid hr
  have hgl := ht.lt
  have HT0 := Lib.hid ht
  clear h hr ht
  go_enter Try.func68, Try.ntmps68
  go_wp2_with fail
  go_loopw [8] (fun i wr => ∃ k : Nat, k ≤ n ∧ i = .int .i64 k ∧ TabX wr g et (setR xs (us.take k)) rest ∧ w.grownBy wr (some g)) (fun i _ => n - (intOf i).toNat)
  case atStart => exact ⟨0, Nat.zero_le _, rfl, HT0.out, World.grownBy.refl w _⟩
  case round =>
    obtain ⟨k, hk, rfl, ht, hb⟩ := hrel
    have HT := Lib.hid ht
    have HB := Lib.hid hb
    have hwsz := hb.size
    have hgr := ht.lt
    clear ht hb
    by_cases hlt : k < n
    · obtain ⟨b, o, hll, rfl, _, hbh, hc0, hc1, hc2⟩ := fl_upd (HI.out.grown HB.out (by omega) (fun q hq => by injection hq with hq; omega)) hlt
      have hru := HR.out us[k] (List.getElem_mem hll)
      have hr0 := hru.1
      have hr3 := hru.2
      clear hru
      have hlk : (setR xs (us.take k)).length = 4 := by rw [setR_len]; exact hl
      have hcell := fun ob : Obj => (HT.out.alloc ob).cell hlk hr0 hr3
      have hst := fun ob : Obj => ((HT.out.alloc ob).drew).set us[k].ref.toNat (by rw [hlk]; omega) us[k].new_
      rw [show (setR xs (us.take k)).set us[k].ref.toNat us[k].new_ = setR xs (us.take (k + 1)) from by rw [List.take_succ_eq_append_getElem hll]; unfold setR; rw [List.foldl_append]; rfl] at hst
      obtain ⟨q, hq⟩ := Int.eq_ofNat_of_zero_le hr0
      rw [hq] at hcell hst hc0 hr3
      have hq3 : q ≤ 3 := by omega
      have hq4 : (q : Int) < 4 := by omega
      clear hq hr3 hr0
      go_wp2_with fail
      have f0 := new_cell wr #[.int .i64 q, .int .i64 us[k].old, .int .i64 us[k].new_] 87 0
      have f2 := new_cell wr #[.int .i64 q, .int .i64 us[k].old, .int .i64 us[k].new_] 87 2
      have hc := hcell (.cells #[.int .i64 q, .int .i64 us[k].old, .int .i64 us[k].new_] 87)
      have hst2 := hst (.cells #[.int .i64 q, .int .i64 us[k].old, .int .i64 us[k].new_] 87)
      have hgw := grown_alloc' HB.out (.cells #[.int .i64 q, .int .i64 us[k].old, .int .i64 us[k].new_] 87)
      clear hcell hst
      generalize wr.alloc (.cells #[.int .i64 q, .int .i64 us[k].old, .int .i64 us[k].new_] 87) = W at *
      have f0' : W.cell? ⟨wr.heap.size, 0, none⟩ = some (.int .i64 q) := f0
      have f2' : W.cell? ⟨wr.heap.size, 2, none⟩ = some (.int .i64 us[k].new_) := f2
      have hcl : W.cell? ⟨g, q, none⟩ = some (.int .i64 (getR (setR xs (us.take k)) q)) := hc.1
      have hfz : W.frozen? ⟨g, q, none⟩ = false := hc.2
      have HST : Hid (TabX (W.drew.setCell ⟨g, q, none⟩ (.int .i64 us[k].new_)) g et (setR xs (us.take (k + 1))) rest) := hst2
      have HGW := Lib.hid hgw
      clear f0 f2 hc hst2 hgw
      go_still_tail 7, (by kernel_rfl)
      change wpList _ _ _ _ _ W.drew
      go_wp2_with fail
      exact ⟨⟨k + 1, by omega, by go_num, HST.out, (grown_set HGW.out q _)⟩, by simp [intOf]; omega⟩
    · have hkn : k = n := by omega
      subst hkn
      go_wp2_with fail
      go_end0
      refine ⟨rfl, ?_, HB.out⟩
      have := HT.out
      rwa [List.take_of_length_le (by rw [HI.out.1]; exact Nat.le_refl _)] at this


set_option maxRecDepth 100000 in
set_option maxHeartbeats 1600000 in
theorem lock_any (g c : Nat) (et : TypeId) (t : Int) (A : Option Addr) (n c' : Nat) (us : List Upd) (xs : List Int) (w : World) (lo hi : Nat) (hg : hi ≤ g) (hn : n ≤ 9223372036854775807) (hl : xs.length = 4) (hr : ∀ u ∈ us, 0 ≤ u.ref ∧ u.ref ≤ 3) (hfree : lockFit xs us = true) (ht : TabX w g et xs []) (h : Fl cu w lo hi A n us) :
    Calls Try.prog 100 #[.slice (some ⟨g, 0, none⟩) 4 c, .int .i64 t, .slice A n c'] w fun e w' => TabX w' g et (lockSet xs t us) [] ∧ w.grownBy w' (some g) ∧ e = .returned .nilIface := by
  have HI := Lib.hid h
  have HR := Lib.hid hr
  have HF := Lib.hid (fun u hu => by simpa using List.all_eq_true.1 hfree u hu : ∀ u ∈ us, getR xs u.ref = -1)
  have hgl := ht.lt
  have HT0 := Lib.hid ht
  have HL := Lib.hid hl
  clear h hr ht hfree hl
  go_enter Try.func100, Try.ntmps100
  go_wp2_with fail
  go_loopw [13] (fun i wr => ∃ k : Nat, k ≤ n ∧ i = .int .i64 k ∧ TabX wr g et xs [] ∧ w.grownBy wr (some g)) (fun i _ => n - (intOf i).toNat)
  case atStart => exact ⟨0, Nat.zero_le _, rfl, HT0.out, World.grownBy.refl w _⟩
  case round =>
    obtain ⟨k, hk, rfl, ht, hb⟩ := hrel
    have HT := Lib.hid ht
    have HB := Lib.hid hb
    have hgr := ht.lt
    clear ht hb
    by_cases hlt : k < n
    · obtain ⟨b, o, hll, rfl, _, hbh, hc0, hc1, hc2⟩ := fl_upd (HI.out.grown HB.out (by omega) (fun q hq => by injection hq with hq; omega)) hlt
      have hru := HR.out us[k] (List.getElem_mem hll)
      have hr0 := hru.1
      have hr3 := hru.2
      have hfr := HF.out us[k] (List.getElem_mem hll)
      clear hru
      have hcell := ((HT.out.alloc (.cells #[.int .i64 us[k].ref, .int .i64 us[k].old, .int .i64 us[k].new_] 87)).cell HL.out hr0 hr3).1
      have HG : Hid (w.grownBy (wr.alloc (.cells #[.int .i64 us[k].ref, .int .i64 us[k].old, .int .i64 us[k].new_] 87)) (some g)) := grown_alloc HB.out _
      have HTA := Lib.hid (HT.out.alloc (.cells #[.int .i64 us[k].ref, .int .i64 us[k].old, .int .i64 us[k].new_] 87))
      rw [hfr] at hcell
      clear hfr
      obtain ⟨q, hq⟩ := Int.eq_ofNat_of_zero_le hr0
      rw [hq] at hcell hc0 hr3
      rw [hq] at HG HTA
      have hq3 : q ≤ 3 := by omega
      have hq4 : (q : Int) < 4 := by omega
      have hcl : (wr.alloc (.cells #[.int .i64 q, .int .i64 us[k].old, .int .i64 us[k].new_] 87)).cell? ⟨g, q, none⟩ = some (.int .i64 (-1)) := hcell
      clear hq hr3 hr0 hcell
      go_wp2_with fail
      exact ⟨⟨k + 1, by omega, by go_num, HTA.out, HG.out⟩, by simp [intOf]; omega⟩
    · have hkn : k = n := by omega
      subst hkn
      go_wp2_with fail
      go_loopw [27] (fun i wr => ∃ j : Nat, j ≤ k ∧ i = .int .i64 j ∧ TabX wr g et (lockSet xs t (us.take j)) [] ∧ w.grownBy wr (some g)) (fun i _ => k - (intOf i).toNat)
      case atStart => exact ⟨0, Nat.zero_le _, rfl, HT.out, HB.out⟩
      case round =>
        obtain ⟨j, hj, rfl, ht, hb⟩ := hrel
        have HT := Lib.hid ht
        have HB := Lib.hid hb
        have hgr := ht.lt
        clear ht hb
        by_cases hlt : j < k
        · obtain ⟨b, o, hll, rfl, _, hbh, hc0, hc1, hc2⟩ := fl_upd (HI.out.grown HB.out (by omega) (fun q hq => by injection hq with hq; omega)) hlt
          have hru := HR.out us[j] (List.getElem_mem hll)
          have hr0 := hru.1
          have hr3 := hru.2
          clear hru
          have hlk : (lockSet xs t (us.take j)).length = 4 := by rw [lockSet_len]; exact HL.out
          have hcf := (HT.out.alloc (.cells #[.int .i64 us[j].ref, .int .i64 us[j].old, .int .i64 us[j].new_] 87)).cell hlk hr0 hr3
          have hst := HT.out.set us[j].ref.toNat (by rw [hlk]; omega) t
          rw [show (lockSet xs t (us.take j)).set us[j].ref.toNat t = lockSet xs t (us.take (j + 1)) from by rw [List.take_succ_eq_append_getElem hll]; unfold lockSet; rw [List.foldl_append]; rfl] at hst
          have HG := Lib.hid (grown_alloc (grown_tr HB.out (set_grown _ g us[j].ref.toNat (.int .i64 t))) (.cells #[.int .i64 us[j].ref, .int .i64 us[j].old, .int .i64 us[j].new_] 87))
          have HST := Lib.hid (hst.alloc (.cells #[.int .i64 us[j].ref, .int .i64 us[j].old, .int .i64 us[j].new_] 87))
          obtain ⟨q, hq⟩ := Int.eq_ofNat_of_zero_le hr0
          rw [hq] at hcf hc0 hr3 HST HG
          have hq3 : q ≤ 3 := by omega
          have hq4 : (q : Int) < 4 := by omega
          have hcl : (wr.alloc (.cells #[.int .i64 q, .int .i64 us[j].old, .int .i64 us[j].new_] 87)).cell? ⟨g, q, none⟩ = some (.int .i64 (getR (lockSet xs t (us.take j)) q)) := hcf.1
          have hfz : (wr.alloc (.cells #[.int .i64 q, .int .i64 us[j].old, .int .i64 us[j].new_] 87)).frozen? ⟨g, q, none⟩ = false := hcf.2
          clear hq hr3 hr0 hcf hst
          go_wp2_with fail
          exact ⟨⟨j + 1, by omega, by go_num, HST.out, HG.out⟩, by simp [intOf]; omega⟩
        · have hjk : j = k := by omega
          subst hjk
          have hT := HT.out
          rw [List.take_of_length_le (by rw [HI.out.1]; exact Nat.le_refl _)] at hT
          have HT4 := Lib.hid hT
          clear hT
          go_wp2_with fail
          go_ret
          exact ⟨HT4.out, HB.out, rfl⟩

end Go.Proofs.Ytgnhanbdfohjaaa
