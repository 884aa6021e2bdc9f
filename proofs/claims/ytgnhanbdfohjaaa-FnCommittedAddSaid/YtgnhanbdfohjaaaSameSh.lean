/-
  The walks of sameUpdates, sameRecord, sameShard: where two read alike the answer is true. And of hasInt. Condition: lengths in reach.
-/
import Derived.Test.YtgnhanbdfohjaaaShCom
namespace Go.Proofs.Ytgnhanbdfohjaaa
set_option linter.unusedVariables false
set_option linter.unusedSimpArgs false
open Go.RowKit
attribute [local go_sem ↓] Go.wp_at_zero Go.wp_at_succ

set_option maxHeartbeats 400000 in
theorem sameUpdates_any (A A' : Option Addr) (n c c' : Nat) (xs : List Upd) (w : World) (lo hi lo' hi' : Nat) (hn : n ≤ 9223372036854775807) (h : Fl cu w lo hi A n xs) (h' : Fl cu w lo' hi' A' n xs) :
    Calls Try.prog 65 #[.slice A n c, .slice A' n c'] w fun e w' => e = .returned (.bool true) ∧ ∃ m, w' = w.drewN m := by
  have HI := Lib.hid h
  have HJ := Lib.hid h'
  have hnn : (!((n : Int) == n)) = false := by simp
  clear h h'
  go_enter Try.func65, Try.ntmps65
  go_wp2
  go_loopw [5] (fun i wr => ∃ k : Nat, k ≤ n ∧ i = .int .i64 k ∧ ∃ m, wr = w.drewN m) (fun i _ => n - (intOf i).toNat)
  case atStart => exact ⟨0, Nat.zero_le _, rfl, 0, rfl⟩
  case round =>
    obtain ⟨k, hk, rfl, m, rfl⟩ := hrel
    by_cases hlt : k < n
    · obtain ⟨b, o, hl, rfl, _, _, hc0, hc1, hc2⟩ := fl_upd HI.out hlt
      obtain ⟨b', o', hl', rfl, _, _, hd0, hd1, hd2⟩ := fl_upd HJ.out hlt
      generalize xs[k] = u at *
      obtain ⟨r, p, q⟩ := u
      dsimp only at hc0 hc1 hc2 hd0 hd1 hd2
      go_wp2
      go_quiet (fail)
      go_wp2
      exact ⟨⟨k + 1, by omega, by go_num, m + nq, rfl⟩, by simp [intOf]; omega⟩
    · have hkn : k = n := by omega
      subst hkn
      go_wp2
      go_ret
      exact ⟨rfl, m, rfl⟩

set_option maxRecDepth 100000 in
set_option maxHeartbeats 800000 in
theorem sameRecord_any (k t : Int) (A A' : Option Addr) (n c c' : Nat) (us : List Upd) (w : World) (lo lo' : Nat) (hn : n ≤ 1000) (h : FlH cu w lo A n us) (h' : FlH cu w lo' A' n us) :
    Calls Try.prog 49 #[.agg #[.int .i64 k, .int .i64 t, .slice A n c], .agg #[.int .i64 k, .int .i64 t, .slice A' n c']] w fun e w' => e = .returned (.bool true) ∧ Below w.heap.size w w' := by
  have H1 := Lib.hid ((h.alloc (.cells #[.int .i64 k, .int .i64 t, .slice A n c] 48)).alloc (.cells #[.int .i64 k, .int .i64 t, .slice A' n c'] 48))
  have H2 := Lib.hid ((h'.alloc (.cells #[.int .i64 k, .int .i64 t, .slice A n c] 48)).alloc (.cells #[.int .i64 k, .int .i64 t, .slice A' n c'] 48))
  have hkk : (k == k) = true := by simp
  have htt : (t == t) = true := by simp
  clear h h'
  go_enter Try.func49, Try.ntmps49
  go_wp2_with (go_at_call 65; refine (sameUpdates_any _ _ _ _ _ us _ _ _ _ _ (by omega) H1.out H2.out).mono ?_; rintro e w4 ⟨rfl, m4, rfl⟩)
  go_ret
  have hb := ((Below.refl w.heap.size w).alloc (Nat.le_refl _) (.cells #[.int .i64 k, .int .i64 t, .slice A n c] 48)).alloc (by simp) (.cells #[.int .i64 k, .int .i64 t, .slice A' n c'] 48)
  exact ⟨rfl, ⟨hb.os, hb.tape, hb.output, hb.size, hb.block⟩⟩

theorem abs_get {rs rs' : List RecC} (h : abs rs = abs rs') {k : Nat} (h1 : k < rs.length) (h2 : k < rs'.length) : rs'[k].kind = rs[k].kind ∧ rs'[k].txn = rs[k].txn ∧ rs'[k].us = rs[k].us := by
  have e1 : (abs rs)[k]'(by rw [abs_len]; exact h1) = rs[k].ab := by unfold abs; rw [List.getElem_map]
  have e2 : (abs rs')[k]'(by rw [abs_len]; exact h2) = rs'[k].ab := by unfold abs; rw [List.getElem_map]
  have e3 : rs[k].ab = rs'[k].ab := by rw [← e1, ← e2]; congr 1
  unfold RecC.ab at e3
  injection e3 with a b c
  exact ⟨a.symm, b.symm, c.symm⟩

set_option maxRecDepth 100000 in
set_option maxHeartbeats 1600000 in
theorem sameShard_any (A A' : Option Addr) (n c c' : Nat) (rs rs' : List RecC) (w : World) (lo lo' : Nat) (hn : n ≤ 1000) (hs : ∀ r ∈ rs, r.n ≤ 1000) (he : abs rs = abs rs') (h : Recs w lo A n rs) (h' : Recs w lo' A' n rs') :
    Calls Try.prog 30 #[.agg #[.slice A n c], .agg #[.slice A' n c']] w fun e w' => e = .returned (.bool true) ∧ Below w.heap.size w w' := by
  have HR := Lib.hid h
  have HR' := Lib.hid h'
  have HE := Lib.hid he
  have HSH := Lib.hid hs
  have hnn : ((n : Int) != n) = false := by simp
  have HX : Hid (((w.alloc (.cells #[.slice A n c] 25)).alloc (.cells #[.slice A' n c'] 25)).heap[w.heap.size]? = some (.cells #[.slice A n c] 25 (0, 0))) := (Below.heap_alloc _ _ _ (by simp)).trans (heap_alloc_new w _)
  have HY : Hid (((w.alloc (.cells #[.slice A n c] 25)).alloc (.cells #[.slice A' n c'] 25)).heap[w.heap.size + 1]? = some (.cells #[.slice A' n c'] 25 (0, 0))) := by
    have := heap_alloc_new (w.alloc (.cells #[.slice A n c] 25)) (.cells #[.slice A' n c'] 25)
    exact Lib.hid (by simpa using this)
  have HB0 : Hid (Below w.heap.size w ((w.alloc (.cells #[.slice A n c] 25)).alloc (.cells #[.slice A' n c'] 25))) := ((Below.refl _ _).alloc (Nat.le_refl _) _).alloc (by simp) _
  clear h h' he hs
  go_enter Try.func30, Try.ntmps30
  go_wp2_with fail
  go_loopw [5] (fun i wr => ∃ k : Nat, k ≤ n ∧ i = .int .i64 k ∧ wr.heap[w.heap.size]? = some (.cells #[.slice A n c] 25 (0, 0)) ∧ wr.heap[w.heap.size + 1]? = some (.cells #[.slice A' n c'] 25 (0, 0)) ∧ Below w.heap.size w wr) (fun i _ => n - (intOf i).toNat)
  case atStart => exact ⟨0, Nat.zero_le _, rfl, HX.out, HY.out, HB0.out⟩
  case round =>
    obtain ⟨k, hk, rfl, hx, hy, hb⟩ := hrel
    have HXR := Lib.hid hx
    have HYR := Lib.hid hy
    have HB := Lib.hid hb
    have hbs := hb.size
    have hxl := heap_lt hx
    have hyl := heap_lt hy
    have k0 : wr.cell? ⟨w.heap.size, 0, none⟩ = some (.slice A n c) := cell_zero hx
    have k1 : wr.cell? ⟨w.heap.size + 1, 0, none⟩ = some (.slice A' n c') := cell_zero hy
    clear hx hy hb HX HY HB0
    by_cases hlt : k < n
    · obtain ⟨b, o, hll, rfl, _, hblt, hc0, hc1, hc2, hin⟩ := (HR.out.bel HB.out).at_ hlt
      obtain ⟨b', o', hll', rfl, _, hblt', hd0, hd1, hd2, hin'⟩ := (HR'.out.bel HB.out).at_ hlt
      obtain ⟨e1, e2, e3⟩ := abs_get HE.out hll hll'
      have hnn' : rs'[k].n = rs[k].n := by rw [← hin'.1.1, ← hin.1.1, e3]
      rw [e1] at hd0
      rw [e2] at hd1
      rw [hnn'] at hd2
      have HIN : Hid (FlH cu wr.drew lo rs[k].A rs[k].n rs[k].us) := hin.1.drewN 1
      have HIN' : Hid (FlH cu wr.drew lo' rs'[k].A rs[k].n rs[k].us) := by
        have := hin'.1.drewN 1
        rw [hnn', e3] at this
        exact this
      have hrn := HSH.out _ (List.getElem_mem hll)
      have hrb := hin.2
      clear e1 e2 e3 hnn' hin hin'
      go_wp2_with fail
      go_region_held3 (fun w' => w'.cell? ⟨w.heap.size, 0, none⟩ = some (.slice (some ⟨b, o, none⟩) n c) ∧ w'.cell? ⟨w.heap.size + 1, 0, none⟩ = some (.slice (some ⟨b', o', none⟩) n c') ∧ w'.cell? ⟨b, o + k * 3, none⟩ = some (.int .i64 rs[k].kind) ∧ w'.cell? ⟨b, o + k * 3 + 1, none⟩ = some (.int .i64 rs[k].txn) ∧ w'.cell? ⟨b, o + k * 3 + 2, none⟩ = some (.slice rs[k].A rs[k].n rs[k].c) ∧ w'.cell? ⟨b', o' + k * 3, none⟩ = some (.int .i64 rs[k].kind) ∧ w'.cell? ⟨b', o' + k * 3 + 1, none⟩ = some (.int .i64 rs[k].txn) ∧ w'.cell? ⟨b', o' + k * 3 + 2, none⟩ = some (.slice rs'[k].A rs[k].n rs'[k].c)) (go_keep)
        (first | (go_at_call 49; (refine (sameRecord_any _ _ _ _ _ _ _ rs[k].us _ lo lo' hrn HIN.out HIN'.out).mono ?_); rintro e w3 ⟨rfl, hb3'⟩; have hb3 : Below wr.heap.size wr w3 := ⟨hb3'.os, hb3'.tape, hb3'.output, hb3'.size, hb3'.block⟩; have HBL3 := Lib.hid hb3; have k30 : w3.cell? ⟨w.heap.size, 0, none⟩ = some (.slice (some ⟨b, o, none⟩) n c) := (hb3.cell hxl).trans k0; have k31 : w3.cell? ⟨w.heap.size + 1, 0, none⟩ = some (.slice (some ⟨b', o', none⟩) n c') := (hb3.cell hyl).trans k1; have kk0 : w3.cell? ⟨b, o + k * 3, none⟩ = some (.int .i64 rs[k].kind) := (hb3.cell hblt).trans hc0; have kk1 : w3.cell? ⟨b, o + k * 3 + 1, none⟩ = some (.int .i64 rs[k].txn) := (hb3.cell hblt).trans hc1; have kk2 : w3.cell? ⟨b, o + k * 3 + 2, none⟩ = some (.slice rs[k].A rs[k].n rs[k].c) := (hb3.cell hblt).trans hc2; have kk3 : w3.cell? ⟨b', o' + k * 3, none⟩ = some (.int .i64 rs[k].kind) := (hb3.cell hblt').trans hd0; have kk4 : w3.cell? ⟨b', o' + k * 3 + 1, none⟩ = some (.int .i64 rs[k].txn) := (hb3.cell hblt').trans hd1; have kk5 : w3.cell? ⟨b', o' + k * 3 + 2, none⟩ = some (.slice rs'[k].A rs[k].n rs'[k].c) := (hb3.cell hblt').trans hd2; clear hb3' hb3))
      go_wp2_with fail
      have hbq := HBL3.out
      exact ⟨⟨k + 1, by omega, by go_num, (hbq.block _ hxl).trans HXR.out, (hbq.block _ hyl).trans HYR.out, HB.out.trans (hbq.mono hbs)⟩, by simp [intOf]; omega⟩
    · have hkn : k = n := by omega
      subst hkn
      go_wp2_with fail
      go_ret
      exact ⟨rfl, HB.out⟩

theorem mem_take_succ {xs : List Int} {k : Nat} (hk : k < xs.length) {x : Int} (h : decide (x ∈ xs.take k) = false) (hx : ¬ xs[k] = x) : decide (x ∈ xs.take (k + 1)) = false := by
  rw [decide_eq_false_iff_not] at h ⊢
  rw [List.take_succ_eq_append_getElem hk, List.mem_append, List.mem_singleton]
  rintro (h' | h')
  · exact h h'
  · exact hx h'.symm

set_option maxHeartbeats 400000 in
theorem hasInt_any (A : Option Addr) (n c : Nat) (xs : List Int) (x : Int) (w : World) (lo : Nat) (hn : n ≤ 9223372036854775807) (h : FlH ci w lo A n xs) :
    Calls Try.prog 25 #[.slice A n c, .int .i64 x] w fun e w' => e = .returned (.bool (decide (x ∈ xs))) ∧ w = w' := by
  have HI := Lib.hid h
  clear h
  go_enter Try.func25, Try.ntmps25
  go_wp2_with fail
  go_loop [5] (fun i => ∃ k : Nat, k ≤ n ∧ i = .int .i64 k ∧ decide (x ∈ xs.take k) = false) (fun i => n - (intOf i).toNat)
  case atStart => exact ⟨0, Nat.zero_le _, rfl, by simp⟩
  case round =>
    obtain ⟨k, hk, rfl, hx⟩ := hrel
    have HX := Lib.hid hx
    clear hx
    by_cases hlt : k < n
    · obtain ⟨b, o, hl, rfl, _, _, hc⟩ := Fl.int HI.out hlt
      rcases Decidable.em (xs[k] = x) with he | he
      · have hb : (xs[k] == x) = true := by simpa using he
        have HM : Hid (decide (x ∈ xs) = true) := by
          show _ = _
          rw [decide_eq_true_iff, ← he]; exact List.getElem_mem hl
        clear he
        go_wp2_with fail
        go_ret
        exact ⟨ret_bool HM.out.symm, rfl⟩
      · have hb : (xs[k] == x) = false := by simpa using he
        have HX' := Lib.hid (mem_take_succ hl HX.out he)
        clear he
        go_wp2_with fail
        exact ⟨⟨k + 1, by omega, by go_num, HX'.out⟩, by simp [intOf]; omega⟩
    · have hkn : k = n := by omega
      subst hkn
      have hx := HX.out
      rw [List.take_of_length_le (by rw [HI.out.1]; exact Nat.le_refl _)] at hx
      have HXA := Lib.hid hx
      clear hx
      go_wp2_with fail
      go_ret
      exact ⟨ret_bool HXA.out.symm, rfl⟩

end Go.Proofs.Ytgnhanbdfohjaaa
