/-
  The walks of the program's isTxn and QuarantineValid: whether a quarantine is valid. Condition: lengths fit an int64.
-/
import Derived.Test.YtgpjcmplnigmcaaM10
namespace Go.Proofs.Ytgpjcmplnigmcaa
set_option linter.unusedVariables false
set_option linter.unusedSimpArgs false
open Go.RowKit

set_option maxHeartbeats 400000 in
theorem isTxn_any (n : Int) (w : World) : Calls Try.prog 50 #[.int .i64 n] w fun e w' => e = .returned (.bool (txnB n)) ∧ w = w' := by
  go_enter Try.func50, Try.ntmps50
  go_wp2_with (go_at_call 90; refine (inRange_any _ _ _ _).mono ?_; rintro e w' ⟨rfl, rfl⟩)
  go_ret
  exact ⟨rfl, rfl⟩
theorem areaAt_txn {zs : List AreaD} {k : Nat} (hl : k < zs.length) (h : txnB zs[k].txn = false) : areaAt zs k = false := by unfold areaAt; rw [arAt hl, h]; rfl
theorem areaAt_full {zs : List AreaD} {k : Nat} (hl : k < zs.length) (h : fullB zs[k].objs = false) : areaAt zs k = false := by unfold areaAt; rw [arAt hl, h]; simp
theorem areaAt_zero {zs : List AreaD} (hl : 0 < zs.length) (h : txnB zs[0].txn = true) (h2 : fullB zs[0].objs = true) : areaAt zs 0 = true := by unfold areaAt; rw [arAt hl, h, h2]; rfl
theorem areaAt_cmp {zs : List AreaD} {k : Nat} (hl : k < zs.length) (hl' : k - 1 < zs.length) (hk : 0 < k) (h : txnB zs[k].txn = true) (h2 : fullB zs[k].objs = true) : areaAt zs k = decide (zs[k - 1].txn < zs[k].txn) := by
  unfold areaAt; rw [arAt hl, arAt hl', h, h2, decide_eq_false (by omega : ¬ k = 0)]; simp

set_option maxRecDepth 100000 in
set_option maxHeartbeats 3200000 in
theorem implQuaValid_any (os : List ObjD) (zs : List AreaD) (A : Option Addr) (n c : Nat) (B : Option Addr) (m d : Nat) (w : World) (lo hi : Nat) (hh : hi ≤ w.heap.size) (h : D.rd w lo hi (dObjects os) (.slice A n c)) (h' : D.rd w lo hi (dAreas zs) (.slice B m d)) :
    Calls Try.prog 40 #[.agg #[.slice A n c, .slice B m d]] w fun e w' => e = .returned (.bool (quaB ⟨os, zs⟩)) ∧ Below w.heap.size w w' := by
  have HI := Lib.hid h'
  have HJ := Lib.hid h
  have HN := Lib.hid h'.len.1
  have hn63 : m ≤ 9223372036854775807 := by have := h'.len; omega
  obtain ⟨r, hr⟩ : ∃ r, r = w.heap.size := ⟨_, rfl⟩
  obtain ⟨w1, hw1⟩ : ∃ w1, w1 = w.alloc (.cells #[.slice A n c, .slice B m d] 31) := ⟨_, rfl⟩
  have hb1 : Below w.heap.size w w1 := by rw [hw1]; exact (Below.refl _ _).alloc (Nat.le_refl _) _
  have HX1 : Hid (w1.heap[r]? = some (.cells #[.slice A n c, .slice B m d] 31 (0, 0))) := by rw [hw1, hr]; exact Lib.hid (heap_alloc_new w _)
  have HB01 := Lib.hid hb1
  have k01 : w1.cell? ⟨r, 1, none⟩ = some (.slice B m d) := cell_of_row _ _ _ _ _ _ HX1.out
  have lr1 := hltS HX1.out
  clear h h' hb1
  go_enter Try.func40, Try.ntmps40
  go_upto_region 1 with (fail)
  rw [← hw1, ← hr]
  clear hw1 hr
  go_wp2_with fail
  go_loopw [8] (fun i wr => ∃ k : Nat, k ≤ m ∧ i = .int .i64 k ∧ Hid (allTo (areaAt zs) k = true) ∧ Hid (wr.heap[r]? = some (.cells #[.slice A n c, .slice B m d] 31 (0, 0))) ∧ Below w.heap.size w wr) (fun i _ => m - (intOf i).toNat)
  case atStart => exact ⟨0, Nat.zero_le _, rfl, rfl, HX1, HB01.out⟩
  case round =>
    obtain ⟨k, hk, rfl, HT, HXR, hbw⟩ := hrel
    have HB := Lib.hid hbw
    have hwsz := hbw.size
    clear hbw k01 lr1
    by_cases hlt : k < m
    · have HIR := Lib.hid (HI.out.below HB.out hh)
      obtain ⟨b, o, hl, A1, n1, c1, rfl, _, hbh, hc0, hc1, ⟨hn1, hm1, hr1⟩⟩ := rd_Area HIR.out hlt
      have hhr : hi ≤ wr.heap.size := Nat.le_trans hh hwsz
      have hbw : b < wr.heap.size := by omega
      obtain ⟨t, ht⟩ : ∃ t, t = zs[k].txn := ⟨_, rfl⟩
      rw [← ht] at hc0
      obtain ⟨p, hp⟩ : ∃ p, p = wr.heap.size := ⟨_, rfl⟩
      obtain ⟨w1, hw1⟩ : ∃ w1, w1 = wr.alloc (.cells #[.int .i64 t, .slice A1 n1 c1] 69) := ⟨_, rfl⟩
      have hb1 : Below wr.heap.size wr w1 := by rw [hw1]; exact (Below.refl _ _).alloc (Nat.le_refl _) _
      have HR1 := Lib.hid ((hr1.below hb1 hhr).drew)
      have hx : w1.heap[p]? = some (.cells #[.int .i64 t, .slice A1 n1 c1] 69 (0, 0)) := by rw [hw1, hp]; exact heap_alloc_new wr _
      have HXR1 := Lib.hid ((hb1.block r (hltS HXR.out)).trans HXR.out)
      have HB1 := Lib.hid (bel_tr HB.out (Nat.le_refl _) hb1)
      have k0 : w1.cell? ⟨p, 0, none⟩ = some (.int .i64 t) := cell_of_row _ _ _ _ _ _ hx
      have k1 : w1.cell? ⟨p, 1, none⟩ = some (.slice A1 n1 c1) := cell_of_row _ _ _ _ _ _ hx
      have k6 : w1.cell? ⟨r, 1, none⟩ = some (.slice (some ⟨b, o, none⟩) m d) := cell_of_row _ _ _ _ _ _ HXR1.out
      have lp : p < w1.heap.size := hltS hx
      have lr : r < w1.heap.size := hltS HXR1.out
      have HB01' := Lib.hid hb1
      have hws1 := hb1.size
      have hh1d : hi ≤ w1.drew.heap.size := Nat.le_trans hhr hb1.size
      have HTE := Lib.hid ht
      clear ht
      go_upto_region 4 with (fail)
      rw [← hw1, ← hp]
      clear hr1 hx hc0 hc1 hb1 hw1 hp
      rcases htv : txnB t with _ | _
      · have hno := Lib.hid (quaB_no (q := ⟨os, zs⟩) hl (areaAt_txn hl (by rw [← HTE.out]; exact htv)))
        have HTV := Lib.hid htv
        clear htv
        go_wp2_with fail
        refine wp_region_any (by kernel_rfl) ?_
        change wpAny _ _ _ _ _ _ _ (World.drew _)
        refine wpAny_take (i := 0) (v := .pointer (some ⟨p, 0, none⟩)) rfl (by kernel_rfl) (by kernel_rfl) (by kernel_rfl) (fun _ _ _ h => h) (Or.inl ⟨by rfl, fun W => by go_simp⟩) ?_
        go_simp
        refine wpAny_ready (rs := [1]) (by kernel_rfl) (by simp) ?_
        refine AllReady.cons rfl (fun K hK => ?_) AllReady.nil
        go_simp
        refine hK _ _ ?_
        clear hK K
        refine wpAny_ready (rs := [2]) (by kernel_rfl) (by simp) ?_
        refine AllReady.cons rfl (fun K hK => ?_) AllReady.nil
        go_simp
        refine (isTxn_any t _).mono ?_
        rintro e w' ⟨rfl, rfl⟩
        rw [HTV.out]
        refine hK _ _ ?_
        clear hK K
        refine wpAny_take (i := 3) (v := .bool true) rfl (by kernel_rfl) (by kernel_rfl) (by kernel_rfl) (fun _ _ _ h => h) (Or.inl ⟨by rfl, fun W => by go_simp⟩) ?_
        go_simp
        refine wpAny_take (i := 4) (v := .bool true) rfl (by kernel_rfl) (by kernel_rfl) (by kernel_rfl) (fun _ _ _ h => h) (Or.inl ⟨by rfl, fun W => by go_simp⟩) ?_
        go_simp
        refine wpAny_take (i := 5) (v := undef) rfl (by kernel_rfl) (by kernel_rfl) (by kernel_rfl) (fun _ _ _ h => h) (Or.inr ⟨by rfl, rfl⟩) ?_
        go_simp
        refine wpAny_take (i := 6) (v := undef) rfl (by kernel_rfl) (by kernel_rfl) (by kernel_rfl) (fun _ _ _ h => h) (Or.inr ⟨by rfl, rfl⟩) ?_
        go_simp
        refine wpAny_take (i := 7) (v := undef) rfl (by kernel_rfl) (by kernel_rfl) (by kernel_rfl) (fun _ _ _ h => h) (Or.inr ⟨by rfl, rfl⟩) ?_
        go_simp
        refine wpAny_take (i := 8) (v := undef) rfl (by kernel_rfl) (by kernel_rfl) (by kernel_rfl) (fun _ _ _ h => h) (Or.inr ⟨by rfl, rfl⟩) ?_
        go_simp
        refine wpAny_take (i := 9) (v := .bool true) rfl (by kernel_rfl) (by kernel_rfl) (by kernel_rfl) (fun _ _ _ h => h) (Or.inl ⟨by rfl, fun W => by go_simp⟩) ?_
        go_simp
        refine wpAny_take (i := 10) (v := .bool true) rfl (by kernel_rfl) (by kernel_rfl) (by kernel_rfl) (fun _ _ _ h => h) (Or.inl ⟨by rfl, fun W => by go_simp⟩) ?_
        go_simp
        refine wpAny_take (i := 11) (v := undef) rfl (by kernel_rfl) (by kernel_rfl) (by kernel_rfl) (fun _ _ _ h => h) (Or.inr ⟨by rfl, rfl⟩) ?_
        go_simp
        refine wpAny_take (i := 12) (v := undef) rfl (by kernel_rfl) (by kernel_rfl) (by kernel_rfl) (fun _ _ _ h => h) (Or.inr ⟨by rfl, rfl⟩) ?_
        go_simp
        refine wpAny_take (i := 13) (v := undef) rfl (by kernel_rfl) (by kernel_rfl) (by kernel_rfl) (fun _ _ _ h => h) (Or.inr ⟨by rfl, rfl⟩) ?_
        go_simp
        refine wpAny_take (i := 14) (v := undef) rfl (by kernel_rfl) (by kernel_rfl) (by kernel_rfl) (fun _ _ _ h => h) (Or.inr ⟨by rfl, rfl⟩) ?_
        go_simp
        refine wpAny_take (i := 15) (v := undef) rfl (by kernel_rfl) (by kernel_rfl) (by kernel_rfl) (fun _ _ _ h => h) (Or.inr ⟨by rfl, rfl⟩) ?_
        go_simp
        refine wpAny_take (i := 16) (v := undef) rfl (by kernel_rfl) (by kernel_rfl) (by kernel_rfl) (fun _ _ _ h => h) (Or.inr ⟨by rfl, rfl⟩) ?_
        go_simp
        refine wpAny_take (i := 17) (v := undef) rfl (by kernel_rfl) (by kernel_rfl) (by kernel_rfl) (fun _ _ _ h => h) (Or.inr ⟨by rfl, rfl⟩) ?_
        go_simp
        refine wpAny_take (i := 18) (v := undef) rfl (by kernel_rfl) (by kernel_rfl) (by kernel_rfl) (fun _ _ _ h => h) (Or.inr ⟨by rfl, rfl⟩) ?_
        go_simp
        refine wpAny_take (i := 19) (v := undef) rfl (by kernel_rfl) (by kernel_rfl) (by kernel_rfl) (fun _ _ _ h => h) (Or.inr ⟨by rfl, rfl⟩) ?_
        go_simp
        refine wpAny_take (i := 20) (v := undef) rfl (by kernel_rfl) (by kernel_rfl) (by kernel_rfl) (fun _ _ _ h => h) (Or.inr ⟨by rfl, rfl⟩) ?_
        go_simp
        refine wpAny_take (i := 21) (v := undef) rfl (by kernel_rfl) (by kernel_rfl) (by kernel_rfl) (fun _ _ _ h => h) (Or.inr ⟨by rfl, rfl⟩) ?_
        go_simp
        refine wpAny_take (i := 22) (v := undef) rfl (by kernel_rfl) (by kernel_rfl) (by kernel_rfl) (fun _ _ _ h => h) (Or.inr ⟨by rfl, rfl⟩) ?_
        go_simp
        refine wpAny_take (i := 23) (v := undef) rfl (by kernel_rfl) (by kernel_rfl) (by kernel_rfl) (fun _ _ _ h => h) (Or.inr ⟨by rfl, rfl⟩) ?_
        go_simp
        refine wpAny_take (i := 24) (v := undef) rfl (by kernel_rfl) (by kernel_rfl) (by kernel_rfl) (fun _ _ _ h => h) (Or.inr ⟨by rfl, rfl⟩) ?_
        go_simp
        refine wpAny_take (i := 25) (v := .bool true) rfl (by kernel_rfl) (by kernel_rfl) (by kernel_rfl) (fun _ _ _ h => h) (Or.inl ⟨by rfl, fun W => by go_simp⟩) ?_
        go_simp
        refine wpAny_done (by kernel_rfl) ?_ _
        go_wp2_with fail
        go_ret
        exact ⟨ret_bool hno.out.symm, HB1.out.drew⟩
      · have HTV := Lib.hid htv
        rcases hfv : fullB zs[k].objs with _ | _
        · have hno := Lib.hid (quaB_no (q := ⟨os, zs⟩) hl (areaAt_full hl hfv))
          have HFV := Lib.hid hfv
          clear htv hfv
          go_wp2_with fail
          refine wp_region_any (by kernel_rfl) ?_
          change wpAny _ _ _ _ _ _ _ (World.drew _)
          refine wpAny_take (i := 0) (v := .pointer (some ⟨p, 0, none⟩)) rfl (by kernel_rfl) (by kernel_rfl) (by kernel_rfl) (fun _ _ _ h => h) (Or.inl ⟨by rfl, fun W => by go_simp⟩) ?_
          go_simp
          refine wpAny_ready (rs := [1]) (by kernel_rfl) (by simp) ?_
          refine AllReady.cons rfl (fun K hK => ?_) AllReady.nil
          go_simp
          refine hK _ _ ?_
          clear hK K
          refine wpAny_ready (rs := [2]) (by kernel_rfl) (by simp) ?_
          refine AllReady.cons rfl (fun K hK => ?_) AllReady.nil
          go_simp
          refine (isTxn_any t _).mono ?_
          rintro e w' ⟨rfl, rfl⟩
          rw [HTV.out]
          refine hK _ _ ?_
          clear hK K
          refine wpAny_take (i := 3) (v := .bool false) rfl (by kernel_rfl) (by kernel_rfl) (by kernel_rfl) (fun _ _ _ h => h) (Or.inl ⟨by rfl, fun W => by go_simp⟩) ?_
          go_simp
          refine wpAny_take (i := 4) (v := .bool false) rfl (by kernel_rfl) (by kernel_rfl) (by kernel_rfl) (fun _ _ _ h => h) (Or.inl ⟨by rfl, fun W => by go_simp⟩) ?_
          go_simp
          refine wpAny_take (i := 5) (v := .pointer (some ⟨p, 1, none⟩)) rfl (by kernel_rfl) (by kernel_rfl) (by kernel_rfl) (fun _ _ _ h => h) (Or.inl ⟨by rfl, fun W => by go_simp⟩) ?_
          go_simp
          refine wpAny_ready (rs := [6]) (by kernel_rfl) (by simp) ?_
          refine AllReady.cons rfl (fun K hK => ?_) AllReady.nil
          go_simp
          refine hK _ _ ?_
          clear hK K
          refine wpAny_ready (rs := [7]) (by kernel_rfl) (by simp) ?_
          refine AllReady.cons rfl (fun K hK => ?_) AllReady.nil
          go_simp
          refine (fullStore_any zs[k].objs A1 n1 c1 _ lo hi hh1d HR1.out).mono ?_
          rintro e w2 ⟨rfl, hb2'⟩
          have hb2 := below_of_drew hb2'
          have HB2 := Lib.hid (bel_tr HB1.out (Nat.le_refl _) hb2)
          have HX2 := Lib.hid ((hb2.block r lr).trans HXR1.out)
          clear hb2 hb2'
          rw [HFV.out]
          refine hK _ _ ?_
          clear hK K
          refine wpAny_take (i := 8) (v := .bool true) rfl (by kernel_rfl) (by kernel_rfl) (by kernel_rfl) (fun _ _ _ h => h) (Or.inl ⟨by rfl, fun W => by go_simp⟩) ?_
          go_simp
          refine wpAny_take (i := 9) (v := .bool true) rfl (by kernel_rfl) (by kernel_rfl) (by kernel_rfl) (fun _ _ _ h => h) (Or.inl ⟨by rfl, fun W => by go_simp⟩) ?_
          go_simp
          refine wpAny_take (i := 10) (v := .bool true) rfl (by kernel_rfl) (by kernel_rfl) (by kernel_rfl) (fun _ _ _ h => h) (Or.inl ⟨by rfl, fun W => by go_simp⟩) ?_
          go_simp
          refine wpAny_take (i := 11) (v := undef) rfl (by kernel_rfl) (by kernel_rfl) (by kernel_rfl) (fun _ _ _ h => h) (Or.inr ⟨by rfl, rfl⟩) ?_
          go_simp
          refine wpAny_take (i := 12) (v := undef) rfl (by kernel_rfl) (by kernel_rfl) (by kernel_rfl) (fun _ _ _ h => h) (Or.inr ⟨by rfl, rfl⟩) ?_
          go_simp
          refine wpAny_take (i := 13) (v := undef) rfl (by kernel_rfl) (by kernel_rfl) (by kernel_rfl) (fun _ _ _ h => h) (Or.inr ⟨by rfl, rfl⟩) ?_
          go_simp
          refine wpAny_take (i := 14) (v := undef) rfl (by kernel_rfl) (by kernel_rfl) (by kernel_rfl) (fun _ _ _ h => h) (Or.inr ⟨by rfl, rfl⟩) ?_
          go_simp
          refine wpAny_take (i := 15) (v := undef) rfl (by kernel_rfl) (by kernel_rfl) (by kernel_rfl) (fun _ _ _ h => h) (Or.inr ⟨by rfl, rfl⟩) ?_
          go_simp
          refine wpAny_take (i := 16) (v := undef) rfl (by kernel_rfl) (by kernel_rfl) (by kernel_rfl) (fun _ _ _ h => h) (Or.inr ⟨by rfl, rfl⟩) ?_
          go_simp
          refine wpAny_take (i := 17) (v := undef) rfl (by kernel_rfl) (by kernel_rfl) (by kernel_rfl) (fun _ _ _ h => h) (Or.inr ⟨by rfl, rfl⟩) ?_
          go_simp
          refine wpAny_take (i := 18) (v := undef) rfl (by kernel_rfl) (by kernel_rfl) (by kernel_rfl) (fun _ _ _ h => h) (Or.inr ⟨by rfl, rfl⟩) ?_
          go_simp
          refine wpAny_take (i := 19) (v := undef) rfl (by kernel_rfl) (by kernel_rfl) (by kernel_rfl) (fun _ _ _ h => h) (Or.inr ⟨by rfl, rfl⟩) ?_
          go_simp
          refine wpAny_take (i := 20) (v := undef) rfl (by kernel_rfl) (by kernel_rfl) (by kernel_rfl) (fun _ _ _ h => h) (Or.inr ⟨by rfl, rfl⟩) ?_
          go_simp
          refine wpAny_take (i := 21) (v := undef) rfl (by kernel_rfl) (by kernel_rfl) (by kernel_rfl) (fun _ _ _ h => h) (Or.inr ⟨by rfl, rfl⟩) ?_
          go_simp
          refine wpAny_take (i := 22) (v := undef) rfl (by kernel_rfl) (by kernel_rfl) (by kernel_rfl) (fun _ _ _ h => h) (Or.inr ⟨by rfl, rfl⟩) ?_
          go_simp
          refine wpAny_take (i := 23) (v := undef) rfl (by kernel_rfl) (by kernel_rfl) (by kernel_rfl) (fun _ _ _ h => h) (Or.inr ⟨by rfl, rfl⟩) ?_
          go_simp
          refine wpAny_take (i := 24) (v := undef) rfl (by kernel_rfl) (by kernel_rfl) (by kernel_rfl) (fun _ _ _ h => h) (Or.inr ⟨by rfl, rfl⟩) ?_
          go_simp
          refine wpAny_take (i := 25) (v := .bool true) rfl (by kernel_rfl) (by kernel_rfl) (by kernel_rfl) (fun _ _ _ h => h) (Or.inl ⟨by rfl, fun W => by go_simp⟩) ?_
          go_simp
          refine wpAny_done (by kernel_rfl) ?_ _
          go_wp2_with fail
          go_ret
          exact ⟨ret_bool hno.out.symm, HB2.out⟩
        · have HFV := Lib.hid hfv
          by_cases hk0 : k = 0
          · have HT2 : Hid (allTo (areaAt zs) (k + 1) = true) := Lib.hid (allTo_succ HT.out (by subst hk0; exact areaAt_zero hl (by rw [← HTE.out]; exact htv) hfv))
            have hkI : (k : Int) = 0 := by omega
            clear htv hfv hk0
            go_wp2_with fail
            simp only [hkI]
            refine wp_region_any (by kernel_rfl) ?_
            change wpAny _ _ _ _ _ _ _ (World.drew _)
            refine wpAny_take (i := 0) (v := .pointer (some ⟨p, 0, none⟩)) rfl (by kernel_rfl) (by kernel_rfl) (by kernel_rfl) (fun _ _ _ h => h) (Or.inl ⟨by rfl, fun W => by go_simp⟩) ?_
            go_simp
            refine wpAny_ready (rs := [1]) (by kernel_rfl) (by simp) ?_
            refine AllReady.cons rfl (fun K hK => ?_) AllReady.nil
            go_simp
            refine hK _ _ ?_
            clear hK K
            refine wpAny_ready (rs := [2]) (by kernel_rfl) (by simp) ?_
            refine AllReady.cons rfl (fun K hK => ?_) AllReady.nil
            go_simp
            refine (isTxn_any t _).mono ?_
            rintro e w' ⟨rfl, rfl⟩
            rw [HTV.out]
            refine hK _ _ ?_
            clear hK K
            refine wpAny_take (i := 3) (v := .bool false) rfl (by kernel_rfl) (by kernel_rfl) (by kernel_rfl) (fun _ _ _ h => h) (Or.inl ⟨by rfl, fun W => by go_simp⟩) ?_
            go_simp
            refine wpAny_take (i := 4) (v := .bool false) rfl (by kernel_rfl) (by kernel_rfl) (by kernel_rfl) (fun _ _ _ h => h) (Or.inl ⟨by rfl, fun W => by go_simp⟩) ?_
            go_simp
            refine wpAny_take (i := 5) (v := .pointer (some ⟨p, 1, none⟩)) rfl (by kernel_rfl) (by kernel_rfl) (by kernel_rfl) (fun _ _ _ h => h) (Or.inl ⟨by rfl, fun W => by go_simp⟩) ?_
            go_simp
            refine wpAny_ready (rs := [6]) (by kernel_rfl) (by simp) ?_
            refine AllReady.cons rfl (fun K hK => ?_) AllReady.nil
            go_simp
            refine hK _ _ ?_
            clear hK K
            refine wpAny_ready (rs := [7]) (by kernel_rfl) (by simp) ?_
            refine AllReady.cons rfl (fun K hK => ?_) AllReady.nil
            go_simp
            refine (fullStore_any zs[k].objs A1 n1 c1 _ lo hi hh1d HR1.out).mono ?_
            rintro e w2 ⟨rfl, hb2'⟩
            have hb2 := below_of_drew hb2'
            have HB2 := Lib.hid (bel_tr HB1.out (Nat.le_refl _) hb2)
            have HX2 := Lib.hid ((hb2.block r lr).trans HXR1.out)
            clear hb2 hb2'
            rw [HFV.out]
            refine hK _ _ ?_
            clear hK K
            refine wpAny_take (i := 8) (v := .bool false) rfl (by kernel_rfl) (by kernel_rfl) (by kernel_rfl) (fun _ _ _ h => h) (Or.inl ⟨by rfl, fun W => by go_simp⟩) ?_
            go_simp
            refine wpAny_take (i := 9) (v := .bool false) rfl (by kernel_rfl) (by kernel_rfl) (by kernel_rfl) (fun _ _ _ h => h) (Or.inl ⟨by rfl, fun W => by go_simp⟩) ?_
            go_simp
            refine wpAny_take (i := 10) (v := .bool false) rfl (by kernel_rfl) (by kernel_rfl) (by kernel_rfl) (fun _ _ _ h => h) (Or.inl ⟨by rfl, fun W => by go_simp⟩) ?_
            go_simp
            refine wpAny_take (i := 11) (v := .int .i64 0) rfl (by kernel_rfl) (by kernel_rfl) (by kernel_rfl) (fun _ _ _ h => h) (Or.inl ⟨by rfl, fun W => by go_simp⟩) ?_
            go_simp
            refine wpAny_take (i := 12) (v := .bool false) rfl (by kernel_rfl) (by kernel_rfl) (by kernel_rfl) (fun _ _ _ h => h) (Or.inl ⟨by rfl, fun W => by go_simp⟩) ?_
            go_simp
            refine wpAny_take (i := 13) (v := .bool false) rfl (by kernel_rfl) (by kernel_rfl) (by kernel_rfl) (fun _ _ _ h => h) (Or.inl ⟨by rfl, fun W => by go_simp⟩) ?_
            go_simp
            refine wpAny_take (i := 14) (v := undef) rfl (by kernel_rfl) (by kernel_rfl) (by kernel_rfl) (fun _ _ _ h => h) (Or.inr ⟨by rfl, rfl⟩) ?_
            go_simp
            refine wpAny_take (i := 15) (v := undef) rfl (by kernel_rfl) (by kernel_rfl) (by kernel_rfl) (fun _ _ _ h => h) (Or.inr ⟨by rfl, rfl⟩) ?_
            go_simp
            refine wpAny_take (i := 16) (v := undef) rfl (by kernel_rfl) (by kernel_rfl) (by kernel_rfl) (fun _ _ _ h => h) (Or.inr ⟨by rfl, rfl⟩) ?_
            go_simp
            refine wpAny_take (i := 17) (v := undef) rfl (by kernel_rfl) (by kernel_rfl) (by kernel_rfl) (fun _ _ _ h => h) (Or.inr ⟨by rfl, rfl⟩) ?_
            go_simp
            refine wpAny_take (i := 18) (v := undef) rfl (by kernel_rfl) (by kernel_rfl) (by kernel_rfl) (fun _ _ _ h => h) (Or.inr ⟨by rfl, rfl⟩) ?_
            go_simp
            refine wpAny_take (i := 19) (v := undef) rfl (by kernel_rfl) (by kernel_rfl) (by kernel_rfl) (fun _ _ _ h => h) (Or.inr ⟨by rfl, rfl⟩) ?_
            go_simp
            refine wpAny_take (i := 20) (v := undef) rfl (by kernel_rfl) (by kernel_rfl) (by kernel_rfl) (fun _ _ _ h => h) (Or.inr ⟨by rfl, rfl⟩) ?_
            go_simp
            refine wpAny_take (i := 21) (v := undef) rfl (by kernel_rfl) (by kernel_rfl) (by kernel_rfl) (fun _ _ _ h => h) (Or.inr ⟨by rfl, rfl⟩) ?_
            go_simp
            refine wpAny_take (i := 22) (v := undef) rfl (by kernel_rfl) (by kernel_rfl) (by kernel_rfl) (fun _ _ _ h => h) (Or.inr ⟨by rfl, rfl⟩) ?_
            go_simp
            refine wpAny_take (i := 23) (v := undef) rfl (by kernel_rfl) (by kernel_rfl) (by kernel_rfl) (fun _ _ _ h => h) (Or.inr ⟨by rfl, rfl⟩) ?_
            go_simp
            refine wpAny_take (i := 24) (v := .bool false) rfl (by kernel_rfl) (by kernel_rfl) (by kernel_rfl) (fun _ _ _ h => h) (Or.inl ⟨by rfl, fun W => by go_simp⟩) ?_
            go_simp
            refine wpAny_take (i := 25) (v := .bool false) rfl (by kernel_rfl) (by kernel_rfl) (by kernel_rfl) (fun _ _ _ h => h) (Or.inl ⟨by rfl, fun W => by go_simp⟩) ?_
            go_simp
            refine wpAny_done (by kernel_rfl) ?_ _
            go_wp2_with fail
            go_roundw
            case rel => exact ⟨k + 1, by omega, by go_num, HT2, HX2, HB2.out⟩
            case measure => simp [intOf]; omega
          · have hkp : 0 < k := by omega
            have hd : decide ((0 : Int) < (k : Int)) = true := by simp; omega
            have hx1 : (0 : Int) ≤ (k : Int) - 1 := by omega
            have hx2 : (k : Int) - 1 < (m : Int) := by omega
            have hx3 : ((k : Int) - 1).toNat = k - 1 := by omega
            have hx4 : (1 : Int) ≤ (k : Int) := by omega
            have hx5 : (k : Int) < (m : Int) + 1 := by omega
            have hx6 : IntKind.i64.wrap ((k : Int) - 1) = (k : Int) - 1 := by rw [IntKind.wrap_i64]; omega
            clear hk0
            obtain ⟨b', o', hl', Aq, nq, cq, he, _, _, kc3, _, _⟩ := rd_Area HIR.out (k := k - 1) (by omega)
            injection he with he
            injection he with he1 he2
            subst he1 he2
            have hcmp := areaAt_cmp hl hl' hkp (by rw [← HTE.out]; exact htv) hfv
            obtain ⟨t2, ht2⟩ : ∃ t2, t2 = zs[k - 1].txn := ⟨_, rfl⟩
            rw [← ht2] at kc3 hcmp
            rw [← HTE.out] at hcmp
            have HC2 := Lib.hid hcmp
            have lb : b < w1.heap.size := Nat.lt_of_lt_of_le hbw hws1
            have k3 : w1.cell? ⟨b, o + (k - 1) * 2, none⟩ = some (.int .i64 t2) := (HB01'.out.cell (p := ⟨b, o + (k - 1) * 2, none⟩) hbw).trans kc3
            clear kc3 htv hfv ht2 hcmp
            by_cases hlt2 : t2 < t
            · have HT2 : Hid (allTo (areaAt zs) (k + 1) = true) := Lib.hid (allTo_succ HT.out (by rw [HC2.out]; exact decide_eq_true hlt2))
              go_wp2_with fail
              go_region_held3 (fun w' => w'.cell? ⟨p, 0, none⟩ = some (.int .i64 t) ∧ w'.cell? ⟨p, 1, none⟩ = some (.slice A1 n1 c1) ∧ w'.cell? ⟨r, 1, none⟩ = some (.slice (some ⟨b, o, none⟩) m d) ∧ w'.cell? ⟨b, o + (k - 1) * 2, none⟩ = some (.int .i64 t2)) (go_keep)
                (first | (go_at_call 50; refine (isTxn_any t _).mono ?_; rintro e w' ⟨rfl, rfl⟩; rw [HTV.out]) | (go_at_call 51; refine (fullStore_any zs[k].objs A1 n1 c1 _ lo hi hh1d HR1.out).mono ?_; rintro e w2 ⟨rfl, hb2'⟩; have hb2 := below_of_drew hb2'; have g0 : w2.cell? ⟨p, 0, none⟩ = some (.int .i64 t) := (hb2.cell lp).trans k0; have g1 : w2.cell? ⟨p, 1, none⟩ = some (.slice A1 n1 c1) := (hb2.cell lp).trans k1; have g6 : w2.cell? ⟨r, 1, none⟩ = some (.slice (some ⟨b, o, none⟩) m d) := (hb2.cell lr).trans k6; have g3 : w2.cell? ⟨b, o + (k - 1) * 2, none⟩ = some (.int .i64 t2) := (hb2.cell lb).trans k3; have HB2 := Lib.hid (bel_tr HB1.out (Nat.le_refl _) hb2); have HX2 := Lib.hid ((hb2.block r lr).trans HXR1.out); rw [HFV.out]; clear hb2 hb2'))
              go_wp2_with fail
              go_roundw
              case rel => exact ⟨k + 1, by omega, by go_num, HT2, HX2, HB2.out⟩
              case measure => simp [intOf]; omega
            · have hno := Lib.hid (quaB_no (q := ⟨os, zs⟩) hl (by rw [HC2.out]; exact decide_eq_false hlt2))
              have hge : t ≤ t2 := by omega
              clear hlt2
              go_wp2_with fail
              go_region_held3 (fun w' => w'.cell? ⟨p, 0, none⟩ = some (.int .i64 t) ∧ w'.cell? ⟨p, 1, none⟩ = some (.slice A1 n1 c1) ∧ w'.cell? ⟨r, 1, none⟩ = some (.slice (some ⟨b, o, none⟩) m d) ∧ w'.cell? ⟨b, o + (k - 1) * 2, none⟩ = some (.int .i64 t2)) (go_keep)
                (first | (go_at_call 50; refine (isTxn_any t _).mono ?_; rintro e w' ⟨rfl, rfl⟩; rw [HTV.out]) | (go_at_call 51; refine (fullStore_any zs[k].objs A1 n1 c1 _ lo hi hh1d HR1.out).mono ?_; rintro e w2 ⟨rfl, hb2'⟩; have hb2 := below_of_drew hb2'; have g0 : w2.cell? ⟨p, 0, none⟩ = some (.int .i64 t) := (hb2.cell lp).trans k0; have g1 : w2.cell? ⟨p, 1, none⟩ = some (.slice A1 n1 c1) := (hb2.cell lp).trans k1; have g6 : w2.cell? ⟨r, 1, none⟩ = some (.slice (some ⟨b, o, none⟩) m d) := (hb2.cell lr).trans k6; have g3 : w2.cell? ⟨b, o + (k - 1) * 2, none⟩ = some (.int .i64 t2) := (hb2.cell lb).trans k3; have HB2 := Lib.hid (bel_tr HB1.out (Nat.le_refl _) hb2); have HX2 := Lib.hid ((hb2.block r lr).trans HXR1.out); rw [HFV.out]; clear hb2 hb2'))
              go_wp2_with fail
              go_ret
              exact ⟨ret_bool hno.out.symm, HB2.out⟩
    · have hkm : k = m := by omega
      subst hkm
      have HY := Lib.hid (quaB_all (q := ⟨os, zs⟩) HN.out.symm HT.out)
      have hhr : hi ≤ wr.heap.size := Nat.le_trans hh hwsz
      have k0 : wr.cell? ⟨r, 0, none⟩ = some (.slice A n c) := cell_of_row _ _ _ _ _ _ HXR.out
      have k1 : wr.cell? ⟨r, 1, none⟩ = some (.slice B k d) := cell_of_row _ _ _ _ _ _ HXR.out
      have lr := hltS HXR.out
      rcases hs : storeB os with _ | _
      · have HS := Lib.hid hs
        clear hs
        go_wp2_with fail
        refine (implStoreValid_any os A n c _ lo hi hhr (HJ.out.below HB.out hh)).mono ?_
        rintro e w2 ⟨rfl, hb2⟩
        rw [HS.out]
        have HB2 := Lib.hid (bel_tr HB.out (Nat.le_refl _) hb2)
        clear hb2
        go_wp2_with fail
        go_ret
        exact ⟨ret_bool (by rw [HY.out, HS.out]; rfl), HB2.out⟩
      · have HS := Lib.hid hs
        clear hs
        go_wp2_with fail
        refine (implStoreValid_any os A n c _ lo hi hhr (HJ.out.below HB.out hh)).mono ?_
        rintro e w2 ⟨rfl, hb2⟩
        rw [HS.out]
        have HB2 := Lib.hid (bel_tr HB.out (Nat.le_refl _) hb2)
        have g1 : w2.cell? ⟨r, 1, none⟩ = some (.slice B k d) := (hb2.cell lr).trans k1
        clear hb2
        go_wp2_with fail
        go_ret
        exact ⟨ret_bool (by rw [HY.out, HS.out, Bool.eq_iff_iff]; simp; omega), HB2.out⟩

end Go.Proofs.Ytgpjcmplnigmcaa
