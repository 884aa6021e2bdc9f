/-
  The walk of the program's StoreValid: whether a list is a store. Condition: lengths fit an int64.
-/
import Derived.Test.YtnaeglfochnikaaGreatZ7
import Derived.Deep.RegionHeld3
import Derived.Deep.RegionHeldLaw
import Derived.Deep.DeepCutAuto
import Derived.Deep.CutBlock
namespace Go.Proofs.YtnaeglfochnikaaGreat
set_option linter.unusedVariables false
set_option linter.unusedSimpArgs false
open Go.RowKit

theorem below_of_drew {C : Nat} {w w' : World} (h : Below C w.drew w') : Below C w w' := ⟨h.os, h.tape, h.output, h.size, h.block⟩
theorem hltS {w : World} {g : Nat} {o : Obj} (h : w.heap[g]? = some o) : g < w.heap.size := by
  rcases Nat.lt_or_ge g w.heap.size with hlt | hge
  · exact hlt
  · rw [Array.getElem?_eq_none hge] at h; cases h
theorem storeAt_bad {os : List ObjD} {k : Nat} (hl : k < os.length) (h : objB os[k] = false) : storeAt os k = false := by unfold storeAt; rw [objAt hl, h]; rfl
theorem storeAt_zero {os : List ObjD} (hl : 0 < os.length) (h : objB os[0] = true) : storeAt os 0 = true := by unfold storeAt; rw [objAt hl, h]; rfl
theorem storeAt_cmp {os : List ObjD} {k : Nat} (hl : k < os.length) (hl' : k - 1 < os.length) (hk : 0 < k) (h : objB os[k] = true) : storeAt os k = decide (idB os[k - 1] < idB os[k]) := by
  unfold storeAt; rw [objAt hl, objAt hl', h, decide_eq_false (by omega : ¬ k = 0)]; simp

set_option maxRecDepth 100000 in
set_option maxHeartbeats 1600000 in
theorem implStoreValid_any (os : List ObjD) (A : Option Addr) (n c : Nat) (w : World) (lo hi : Nat) (hh : hi ≤ w.heap.size) (h : D.rd w lo hi (dObjects os) (.slice A n c)) :
    Calls Tryz.prog 41 #[.slice A n c] w fun e w' => e = .returned (.bool (storeB os)) ∧ Below w.heap.size w w' := by
  have HI := Lib.hid h
  have HN := Lib.hid h.len.1
  have hn63 : n ≤ 9223372036854775807 := by have := h.len; omega
  clear h
  go_enter Tryz.func41, Tryz.ntmps41
  go_wp2_with fail
  go_loopw [7] (fun i wr => ∃ k : Nat, k ≤ n ∧ i = .int .i64 k ∧ Hid (allTo (storeAt os) k = true) ∧ Below w.heap.size w wr) (fun i _ => n - (intOf i).toNat)
  case atStart => exact ⟨0, Nat.zero_le _, rfl, rfl, Below.refl _ _⟩
  case round =>
    obtain ⟨k, hk, rfl, HT, hbw⟩ := hrel
    have HB := Lib.hid hbw
    have hwsz := hbw.size
    clear hbw
    by_cases hlt : k < n
    · have HIR := Lib.hid (HI.out.below HB.out hh)
      obtain ⟨b, o, hl, A1, n1, c1, rfl, _, hbh, hc0, hc1, hc2, ⟨hn1, hm1, hr1⟩, ht2⟩ := rd_Object HIR.out hlt
      have hhr : hi ≤ wr.heap.size := Nat.le_trans hh hwsz
      have hbw : b < wr.heap.size := by omega
      obtain ⟨p, hp⟩ : ∃ p, p = wr.heap.size := ⟨_, rfl⟩
      obtain ⟨w1, hw1⟩ : ∃ w1, w1 = wr.alloc (.cells #[.int .i64 os[k].kind, .slice A1 n1 c1, .string os[k].text] 52) := ⟨_, rfl⟩
      have hb1 : Below wr.heap.size wr w1 := by rw [hw1]; exact (Below.refl _ _).alloc (Nat.le_refl _) _
      have HR1 := Lib.hid ((hr1.below hb1 hhr).drew)
      have HX : w1.heap[p]? = some (.cells #[.int .i64 os[k].kind, .slice A1 n1 c1, .string os[k].text] 52 (0, 0)) := by rw [hw1, hp]; exact heap_alloc_new wr _
      have HB1 := Lib.hid (bel_tr HB.out (Nat.le_refl _) hb1)
      have k0 : w1.cell? ⟨p, 0, none⟩ = some (.int .i64 os[k].kind) := cell_of_row _ _ _ _ _ _ HX
      have k1 : w1.cell? ⟨p, 1, none⟩ = some (.slice A1 n1 c1) := cell_of_row _ _ _ _ _ _ HX
      have k2 : w1.cell? ⟨p, 2, none⟩ = some (.string os[k].text) := cell_of_row _ _ _ _ _ _ HX
      have lp : p < w1.heap.size := hltS HX
      have HB01 := Lib.hid hb1
      have hws1 := hb1.size
      have hh1 : hi ≤ w1.heap.size := Nat.le_trans hhr hb1.size
      have hh1d : hi ≤ w1.drew.heap.size := hh1
      go_upto_region 4 with (fail)
      rw [← hw1, ← hp]
      clear hr1 HX hc0 hc1 hc2 hb1 hw1 hp
      rcases hv : objB os[k] with _ | _
      · have hno := Lib.hid (storeB_no hl (storeAt_bad hl hv))
        have HVV := Lib.hid hv
        clear hv
        go_wp2_with fail
        refine wp_region_any (by kernel_rfl) ?_
        change wpAny _ _ _ _ _ _ _ (World.drew _)
        refine wpAny_ready (rs := [0]) (by kernel_rfl) (by simp) ?_
        refine AllReady.cons rfl (fun K hK => ?_) AllReady.nil
        go_simp
        refine hK _ _ ?_
        clear hK K
        refine wpAny_ready (rs := [1]) (by kernel_rfl) (by simp) ?_
        refine AllReady.cons rfl (fun K hK => ?_) AllReady.nil
        go_simp
        refine (objOk_any os[k].kind os[k].links os[k].text A1 n1 c1 _ lo hi hh1d ht2 HR1.out).mono ?_
        rintro e w2 ⟨rfl, hb2'⟩
        have hb2 := below_of_drew hb2'
        have HB2 := Lib.hid (bel_tr HB1.out (Nat.le_refl _) hb2)
        clear hb2 hb2'
        rw [show objB ⟨os[k].kind, os[k].links, os[k].text⟩ = false from HVV.out]
        refine hK _ _ ?_
        clear hK K
        refine wpAny_take (i := 2) (v := .bool true) rfl (by kernel_rfl) (by kernel_rfl) (by kernel_rfl) (fun _ _ _ h => h) (Or.inl ⟨by rfl, fun W => by go_simp⟩) ?_
        go_simp
        refine wpAny_take (i := 3) (v := .bool true) rfl (by kernel_rfl) (by kernel_rfl) (by kernel_rfl) (fun _ _ _ h => h) (Or.inl ⟨by rfl, fun W => by go_simp⟩) ?_
        go_simp
        refine wpAny_take (i := 4) (v := undef) rfl (by kernel_rfl) (by kernel_rfl) (by kernel_rfl) (fun _ _ _ h => h) (Or.inr ⟨by rfl, rfl⟩) ?_
        go_simp
        refine wpAny_take (i := 5) (v := undef) rfl (by kernel_rfl) (by kernel_rfl) (by kernel_rfl) (fun _ _ _ h => h) (Or.inr ⟨by rfl, rfl⟩) ?_
        go_simp
        refine wpAny_take (i := 6) (v := undef) rfl (by kernel_rfl) (by kernel_rfl) (by kernel_rfl) (fun _ _ _ h => h) (Or.inr ⟨by rfl, rfl⟩) ?_
        go_simp
        refine wpAny_take (i := 7) (v := undef) rfl (by kernel_rfl) (by kernel_rfl) (by kernel_rfl) (fun _ _ _ h => h) (Or.inr ⟨by rfl, rfl⟩) ?_
        go_simp
        refine wpAny_take (i := 8) (v := undef) rfl (by kernel_rfl) (by kernel_rfl) (by kernel_rfl) (fun _ _ _ h => h) (Or.inr ⟨by rfl, rfl⟩) ?_
        go_simp
        refine wpAny_take (i := 9) (v := undef) rfl (by kernel_rfl) (by kernel_rfl) (by kernel_rfl) (fun _ _ _ h => h) (Or.inr ⟨by rfl, rfl⟩) ?_
        go_simp
        refine wpAny_take (i := 10) (v := undef) rfl (by kernel_rfl) (by kernel_rfl) (by kernel_rfl) (fun _ _ _ h => h) (Or.inr ⟨by rfl, rfl⟩) ?_
        go_simp
        refine wpAny_take (i := 11) (v := undef) rfl (by kernel_rfl) (by kernel_rfl) (by kernel_rfl) (fun _ _ _ h => h) (Or.inr ⟨by rfl, rfl⟩) ?_
        go_simp
        refine wpAny_take (i := 12) (v := undef) rfl (by kernel_rfl) (by kernel_rfl) (by kernel_rfl) (fun _ _ _ h => h) (Or.inr ⟨by rfl, rfl⟩) ?_
        go_simp
        refine wpAny_take (i := 13) (v := undef) rfl (by kernel_rfl) (by kernel_rfl) (by kernel_rfl) (fun _ _ _ h => h) (Or.inr ⟨by rfl, rfl⟩) ?_
        go_simp
        refine wpAny_take (i := 14) (v := undef) rfl (by kernel_rfl) (by kernel_rfl) (by kernel_rfl) (fun _ _ _ h => h) (Or.inr ⟨by rfl, rfl⟩) ?_
        go_simp
        refine wpAny_take (i := 15) (v := undef) rfl (by kernel_rfl) (by kernel_rfl) (by kernel_rfl) (fun _ _ _ h => h) (Or.inr ⟨by rfl, rfl⟩) ?_
        go_simp
        refine wpAny_take (i := 16) (v := undef) rfl (by kernel_rfl) (by kernel_rfl) (by kernel_rfl) (fun _ _ _ h => h) (Or.inr ⟨by rfl, rfl⟩) ?_
        go_simp
        refine wpAny_take (i := 17) (v := .bool true) rfl (by kernel_rfl) (by kernel_rfl) (by kernel_rfl) (fun _ _ _ h => h) (Or.inl ⟨by rfl, fun W => by go_simp⟩) ?_
        go_simp
        refine wpAny_done (by kernel_rfl) ?_ _
        go_wp2_with fail
        go_ret
        exact ⟨ret_bool hno.out.symm, HB2.out⟩
      · have HVV := Lib.hid hv
        by_cases hk0 : k = 0
        · subst hk0
          have HT2 : Hid (allTo (storeAt os) 1 = true) := allTo_succ HT.out (storeAt_zero hl hv)
          clear hv
          go_wp2_with fail
          refine wp_region_any (by kernel_rfl) ?_
          change wpAny _ _ _ _ _ _ _ (World.drew _)
          refine wpAny_ready (rs := [0]) (by kernel_rfl) (by simp) ?_
          refine AllReady.cons rfl (fun K hK => ?_) AllReady.nil
          go_simp
          refine hK _ _ ?_
          clear hK K
          refine wpAny_ready (rs := [1]) (by kernel_rfl) (by simp) ?_
          refine AllReady.cons rfl (fun K hK => ?_) AllReady.nil
          go_simp
          refine (objOk_any os[0].kind os[0].links os[0].text A1 n1 c1 _ lo hi hh1d ht2 HR1.out).mono ?_
          rintro e w2 ⟨rfl, hb2'⟩
          have hb2 := below_of_drew hb2'
          have HB2 := Lib.hid (bel_tr HB1.out (Nat.le_refl _) hb2)
          clear hb2 hb2'
          rw [show objB ⟨os[0].kind, os[0].links, os[0].text⟩ = true from HVV.out]
          refine hK _ _ ?_
          clear hK K
          refine wpAny_take (i := 2) (v := .bool false) rfl (by kernel_rfl) (by kernel_rfl) (by kernel_rfl) (fun _ _ _ h => h) (Or.inl ⟨by rfl, fun W => by go_simp⟩) ?_
          go_simp
          refine wpAny_take (i := 3) (v := .bool false) rfl (by kernel_rfl) (by kernel_rfl) (by kernel_rfl) (fun _ _ _ h => h) (Or.inl ⟨by rfl, fun W => by go_simp⟩) ?_
          go_simp
          refine wpAny_take (i := 4) (v := .int .i64 0) rfl (by kernel_rfl) (by kernel_rfl) (by kernel_rfl) (fun _ _ _ h => h) (Or.inl ⟨by rfl, fun W => by go_simp⟩) ?_
          go_simp
          refine wpAny_take (i := 5) (v := .bool false) rfl (by kernel_rfl) (by kernel_rfl) (by kernel_rfl) (fun _ _ _ h => h) (Or.inl ⟨by rfl, fun W => by go_simp⟩) ?_
          go_simp
          refine wpAny_take (i := 6) (v := .bool false) rfl (by kernel_rfl) (by kernel_rfl) (by kernel_rfl) (fun _ _ _ h => h) (Or.inl ⟨by rfl, fun W => by go_simp⟩) ?_
          go_simp
          refine wpAny_take (i := 7) (v := undef) rfl (by kernel_rfl) (by kernel_rfl) (by kernel_rfl) (fun _ _ _ h => h) (Or.inr ⟨by rfl, rfl⟩) ?_
          go_simp
          refine wpAny_take (i := 8) (v := undef) rfl (by kernel_rfl) (by kernel_rfl) (by kernel_rfl) (fun _ _ _ h => h) (Or.inr ⟨by rfl, rfl⟩) ?_
          go_simp
          refine wpAny_take (i := 9) (v := undef) rfl (by kernel_rfl) (by kernel_rfl) (by kernel_rfl) (fun _ _ _ h => h) (Or.inr ⟨by rfl, rfl⟩) ?_
          go_simp
          refine wpAny_take (i := 10) (v := undef) rfl (by kernel_rfl) (by kernel_rfl) (by kernel_rfl) (fun _ _ _ h => h) (Or.inr ⟨by rfl, rfl⟩) ?_
          go_simp
          refine wpAny_take (i := 11) (v := undef) rfl (by kernel_rfl) (by kernel_rfl) (by kernel_rfl) (fun _ _ _ h => h) (Or.inr ⟨by rfl, rfl⟩) ?_
          go_simp
          refine wpAny_take (i := 12) (v := undef) rfl (by kernel_rfl) (by kernel_rfl) (by kernel_rfl) (fun _ _ _ h => h) (Or.inr ⟨by rfl, rfl⟩) ?_
          go_simp
          refine wpAny_take (i := 13) (v := undef) rfl (by kernel_rfl) (by kernel_rfl) (by kernel_rfl) (fun _ _ _ h => h) (Or.inr ⟨by rfl, rfl⟩) ?_
          go_simp
          refine wpAny_take (i := 14) (v := undef) rfl (by kernel_rfl) (by kernel_rfl) (by kernel_rfl) (fun _ _ _ h => h) (Or.inr ⟨by rfl, rfl⟩) ?_
          go_simp
          refine wpAny_take (i := 15) (v := undef) rfl (by kernel_rfl) (by kernel_rfl) (by kernel_rfl) (fun _ _ _ h => h) (Or.inr ⟨by rfl, rfl⟩) ?_
          go_simp
          refine wpAny_take (i := 16) (v := .bool false) rfl (by kernel_rfl) (by kernel_rfl) (by kernel_rfl) (fun _ _ _ h => h) (Or.inl ⟨by rfl, fun W => by go_simp⟩) ?_
          go_simp
          refine wpAny_take (i := 17) (v := .bool false) rfl (by kernel_rfl) (by kernel_rfl) (by kernel_rfl) (fun _ _ _ h => h) (Or.inl ⟨by rfl, fun W => by go_simp⟩) ?_
          go_simp
          refine wpAny_done (by kernel_rfl) ?_ _
          go_wp2_with fail
          go_roundw
          case rel => exact ⟨1, by omega, by go_num, HT2, HB2.out⟩
          case measure => simp [intOf]; omega
        · have hkp : 0 < k := by omega
          have hd : decide ((0 : Int) < (k : Int)) = true := by simp; omega
          have hx1 : (0 : Int) ≤ (k : Int) - 1 := by omega
          have hx2 : (k : Int) - 1 < (n : Int) := by omega
          have hx3 : ((k : Int) - 1).toNat = k - 1 := by omega
          have hx4 : (1 : Int) ≤ (k : Int) := by omega
          have hx5 : (k : Int) < (n : Int) + 1 := by omega
          have hx6 : IntKind.i64.wrap ((k : Int) - 1) = (k : Int) - 1 := by rw [IntKind.wrap_i64]; omega
          clear hk0
          obtain ⟨b', o', hl', Aq, nq, cq, he, _, _, kc3, kc4, kc5, ⟨_, _, hrq⟩, _⟩ := rd_Object HIR.out (k := k - 1) (by omega)
          injection he with he
          injection he with he1 he2
          subst he1 he2
          have lb : b < w1.heap.size := Nat.lt_of_lt_of_le hbw hws1
          have k3 : w1.cell? ⟨b, o + (k - 1) * 3, none⟩ = some (.int .i64 os[k - 1].kind) := (HB01.out.cell (p := ⟨b, o + (k - 1) * 3, none⟩) hbw).trans kc3
          have k4 : w1.cell? ⟨b, o + (k - 1) * 3 + 1, none⟩ = some (.slice Aq nq cq) := (HB01.out.cell (p := ⟨b, o + (k - 1) * 3 + 1, none⟩) hbw).trans kc4
          have k5 : w1.cell? ⟨b, o + (k - 1) * 3 + 2, none⟩ = some (.string os[k - 1].text) := (HB01.out.cell (p := ⟨b, o + (k - 1) * 3 + 2, none⟩) hbw).trans kc5
          have HRP := Lib.hid (hrq.below HB01.out hhr)
          have HVP : Hid (objB ⟨os[k - 1].kind, os[k - 1].links, os[k - 1].text⟩ = true) := Lib.hid (show objB os[k - 1] = true from ((storeAt_iff hl').1 ((allTo_iff _ _).1 HT.out (k - 1) (by omega))).1)
          have HCM := Lib.hid (storeAt_cmp hl hl' hkp hv)
          obtain ⟨i1, hi1⟩ : ∃ i1, idB ⟨os[k - 1].kind, os[k - 1].links, os[k - 1].text⟩ = i1 := ⟨_, rfl⟩
          obtain ⟨i2, hi2⟩ : ∃ i2, idB ⟨os[k].kind, os[k].links, os[k].text⟩ = i2 := ⟨_, rfl⟩
          have HI1 := Lib.hid hi1
          have HI2 := Lib.hid hi2
          have HC2 : Hid (storeAt os k = decide (i1 < i2)) := by rw [← hi1, ← hi2]; exact HCM
          clear kc3 kc4 kc5 hrq hv hi1 hi2 HCM
          by_cases hlt2 : i1 < i2
          · have HT2 : Hid (allTo (storeAt os) (k + 1) = true) := allTo_succ HT.out (by rw [HC2.out]; exact decide_eq_true hlt2)
            go_wp2_with fail
            go_region_held3 (fun w' => w'.cell? ⟨p, 0, none⟩ = some (.int .i64 os[k].kind) ∧ w'.cell? ⟨p, 1, none⟩ = some (.slice A1 n1 c1) ∧ w'.cell? ⟨p, 2, none⟩ = some (.string os[k].text) ∧ w'.cell? ⟨b, o + (k - 1) * 3, none⟩ = some (.int .i64 os[k - 1].kind) ∧ w'.cell? ⟨b, o + (k - 1) * 3 + 1, none⟩ = some (.slice Aq nq cq) ∧ w'.cell? ⟨b, o + (k - 1) * 3 + 2, none⟩ = some (.string os[k - 1].text)) (go_keep)
              (first | (go_at_call 63; refine (objOk_any os[k].kind os[k].links os[k].text A1 n1 c1 _ lo hi hh1d ht2 HR1.out).mono ?_; rintro e w2 ⟨rfl, hb2'⟩; have hb2 := below_of_drew hb2'; have g0 : w2.cell? ⟨p, 0, none⟩ = some (.int .i64 os[k].kind) := (hb2.cell lp).trans k0; have g1 : w2.cell? ⟨p, 1, none⟩ = some (.slice A1 n1 c1) := (hb2.cell lp).trans k1; have g2 : w2.cell? ⟨p, 2, none⟩ = some (.string os[k].text) := (hb2.cell lp).trans k2; have g3 : w2.cell? ⟨b, o + (k - 1) * 3, none⟩ = some (.int .i64 os[k - 1].kind) := (hb2.cell lb).trans k3; have g4 : w2.cell? ⟨b, o + (k - 1) * 3 + 1, none⟩ = some (.slice Aq nq cq) := (hb2.cell lb).trans k4; have g5 : w2.cell? ⟨b, o + (k - 1) * 3 + 2, none⟩ = some (.string os[k - 1].text) := (hb2.cell lb).trans k5;have mp : p < w2.heap.size := Nat.lt_of_lt_of_le lp hb2.size; have mb : b < w2.heap.size := Nat.lt_of_lt_of_le lb hb2.size; have HRP2 := Lib.hid (HRP.out.below hb2 hh1); have HR12 := Lib.hid (HR1.out.below hb2' hh1); have hh2 : hi ≤ w2.heap.size := Nat.le_trans hh1 hb2.size; have HB2 := Lib.hid (bel_tr HB1.out (Nat.le_refl _) hb2); have tok1 : True := trivial; clear hb2 hb2'; rw [show objB ⟨os[k].kind, os[k].links, os[k].text⟩ = true from HVV.out]) | (have _t := tok1; go_at_call 73; refine (objId_any os[k - 1].kind os[k - 1].links os[k - 1].text Aq nq cq _ lo hi hh2 HVP.out HRP2.out).mono ?_; rintro e w3 ⟨rfl, hb3⟩; rw [HI1.out]; have h0 : w3.cell? ⟨p, 0, none⟩ = some (.int .i64 os[k].kind) := (hb3.cell mp).trans g0; have h1 : w3.cell? ⟨p, 1, none⟩ = some (.slice A1 n1 c1) := (hb3.cell mp).trans g1; have h2 : w3.cell? ⟨p, 2, none⟩ = some (.string os[k].text) := (hb3.cell mp).trans g2; have h3 : w3.cell? ⟨b, o + (k - 1) * 3, none⟩ = some (.int .i64 os[k - 1].kind) := (hb3.cell mb).trans g3; have h4 : w3.cell? ⟨b, o + (k - 1) * 3 + 1, none⟩ = some (.slice Aq nq cq) := (hb3.cell mb).trans g4; have h5 : w3.cell? ⟨b, o + (k - 1) * 3 + 2, none⟩ = some (.string os[k - 1].text) := (hb3.cell mb).trans g5; have qp : p < w3.heap.size := Nat.lt_of_lt_of_le mp hb3.size; have qb : b < w3.heap.size := Nat.lt_of_lt_of_le mb hb3.size; have HR13 := Lib.hid (HR12.out.below hb3 hh2); have hh3 : hi ≤ w3.heap.size := Nat.le_trans hh2 hb3.size; have HB3 := Lib.hid (bel_tr HB2.out (Nat.le_refl _) hb3); have tok2 : True := trivial; clear tok1 hb3) | (have _t := tok2; go_at_call 73; refine (objId_any os[k].kind os[k].links os[k].text A1 n1 c1 _ lo hi hh3 HVV.out HR13.out).mono ?_; rintro e w4 ⟨rfl, hb4⟩; rw [HI2.out]; have i0 : w4.cell? ⟨p, 0, none⟩ = some (.int .i64 os[k].kind) := (hb4.cell qp).trans h0; have i1 : w4.cell? ⟨p, 1, none⟩ = some (.slice A1 n1 c1) := (hb4.cell qp).trans h1; have i2 : w4.cell? ⟨p, 2, none⟩ = some (.string os[k].text) := (hb4.cell qp).trans h2; have i3 : w4.cell? ⟨b, o + (k - 1) * 3, none⟩ = some (.int .i64 os[k - 1].kind) := (hb4.cell qb).trans h3; have i4 : w4.cell? ⟨b, o + (k - 1) * 3 + 1, none⟩ = some (.slice Aq nq cq) := (hb4.cell qb).trans h4; have i5 : w4.cell? ⟨b, o + (k - 1) * 3 + 2, none⟩ = some (.string os[k - 1].text) := (hb4.cell qb).trans h5; have HB4 := Lib.hid (bel_tr HB3.out (Nat.le_refl _) hb4); clear tok2 hb4))
            go_wp2_with fail
            go_roundw
            case rel => exact ⟨k + 1, by omega, by go_num, HT2, HB4.out⟩
            case measure => simp [intOf]; omega
          · have hno := Lib.hid (storeB_no hl (by rw [HC2.out]; exact decide_eq_false hlt2))
            have hge : i2 ≤ i1 := by omega
            clear hlt2
            go_wp2_with fail
            go_region_held3 (fun w' => w'.cell? ⟨p, 0, none⟩ = some (.int .i64 os[k].kind) ∧ w'.cell? ⟨p, 1, none⟩ = some (.slice A1 n1 c1) ∧ w'.cell? ⟨p, 2, none⟩ = some (.string os[k].text) ∧ w'.cell? ⟨b, o + (k - 1) * 3, none⟩ = some (.int .i64 os[k - 1].kind) ∧ w'.cell? ⟨b, o + (k - 1) * 3 + 1, none⟩ = some (.slice Aq nq cq) ∧ w'.cell? ⟨b, o + (k - 1) * 3 + 2, none⟩ = some (.string os[k - 1].text)) (go_keep)
              (first | (go_at_call 63; refine (objOk_any os[k].kind os[k].links os[k].text A1 n1 c1 _ lo hi hh1d ht2 HR1.out).mono ?_; rintro e w2 ⟨rfl, hb2'⟩; have hb2 := below_of_drew hb2'; have g0 : w2.cell? ⟨p, 0, none⟩ = some (.int .i64 os[k].kind) := (hb2.cell lp).trans k0; have g1 : w2.cell? ⟨p, 1, none⟩ = some (.slice A1 n1 c1) := (hb2.cell lp).trans k1; have g2 : w2.cell? ⟨p, 2, none⟩ = some (.string os[k].text) := (hb2.cell lp).trans k2; have g3 : w2.cell? ⟨b, o + (k - 1) * 3, none⟩ = some (.int .i64 os[k - 1].kind) := (hb2.cell lb).trans k3; have g4 : w2.cell? ⟨b, o + (k - 1) * 3 + 1, none⟩ = some (.slice Aq nq cq) := (hb2.cell lb).trans k4; have g5 : w2.cell? ⟨b, o + (k - 1) * 3 + 2, none⟩ = some (.string os[k - 1].text) := (hb2.cell lb).trans k5;have mp : p < w2.heap.size := Nat.lt_of_lt_of_le lp hb2.size; have mb : b < w2.heap.size := Nat.lt_of_lt_of_le lb hb2.size; have HRP2 := Lib.hid (HRP.out.below hb2 hh1); have HR12 := Lib.hid (HR1.out.below hb2' hh1); have hh2 : hi ≤ w2.heap.size := Nat.le_trans hh1 hb2.size; have HB2 := Lib.hid (bel_tr HB1.out (Nat.le_refl _) hb2); have tok1 : True := trivial; clear hb2 hb2'; rw [show objB ⟨os[k].kind, os[k].links, os[k].text⟩ = true from HVV.out]) | (have _t := tok1; go_at_call 73; refine (objId_any os[k - 1].kind os[k - 1].links os[k - 1].text Aq nq cq _ lo hi hh2 HVP.out HRP2.out).mono ?_; rintro e w3 ⟨rfl, hb3⟩; rw [HI1.out]; have h0 : w3.cell? ⟨p, 0, none⟩ = some (.int .i64 os[k].kind) := (hb3.cell mp).trans g0; have h1 : w3.cell? ⟨p, 1, none⟩ = some (.slice A1 n1 c1) := (hb3.cell mp).trans g1; have h2 : w3.cell? ⟨p, 2, none⟩ = some (.string os[k].text) := (hb3.cell mp).trans g2; have h3 : w3.cell? ⟨b, o + (k - 1) * 3, none⟩ = some (.int .i64 os[k - 1].kind) := (hb3.cell mb).trans g3; have h4 : w3.cell? ⟨b, o + (k - 1) * 3 + 1, none⟩ = some (.slice Aq nq cq) := (hb3.cell mb).trans g4; have h5 : w3.cell? ⟨b, o + (k - 1) * 3 + 2, none⟩ = some (.string os[k - 1].text) := (hb3.cell mb).trans g5; have qp : p < w3.heap.size := Nat.lt_of_lt_of_le mp hb3.size; have qb : b < w3.heap.size := Nat.lt_of_lt_of_le mb hb3.size; have HR13 := Lib.hid (HR12.out.below hb3 hh2); have hh3 : hi ≤ w3.heap.size := Nat.le_trans hh2 hb3.size; have HB3 := Lib.hid (bel_tr HB2.out (Nat.le_refl _) hb3); have tok2 : True := trivial; clear tok1 hb3) | (have _t := tok2; go_at_call 73; refine (objId_any os[k].kind os[k].links os[k].text A1 n1 c1 _ lo hi hh3 HVV.out HR13.out).mono ?_; rintro e w4 ⟨rfl, hb4⟩; rw [HI2.out]; have i0 : w4.cell? ⟨p, 0, none⟩ = some (.int .i64 os[k].kind) := (hb4.cell qp).trans h0; have i1 : w4.cell? ⟨p, 1, none⟩ = some (.slice A1 n1 c1) := (hb4.cell qp).trans h1; have i2 : w4.cell? ⟨p, 2, none⟩ = some (.string os[k].text) := (hb4.cell qp).trans h2; have i3 : w4.cell? ⟨b, o + (k - 1) * 3, none⟩ = some (.int .i64 os[k - 1].kind) := (hb4.cell qb).trans h3; have i4 : w4.cell? ⟨b, o + (k - 1) * 3 + 1, none⟩ = some (.slice Aq nq cq) := (hb4.cell qb).trans h4; have i5 : w4.cell? ⟨b, o + (k - 1) * 3 + 2, none⟩ = some (.string os[k - 1].text) := (hb4.cell qb).trans h5; have HB4 := Lib.hid (bel_tr HB3.out (Nat.le_refl _) hb4); clear tok2 hb4))
            go_wp2_with fail
            go_ret
            exact ⟨ret_bool hno.out.symm, HB4.out⟩
    · have hkn : k = n := by omega
      subst hkn
      have HY := Lib.hid (storeB_all (os := os) HN.out.symm HT.out)
      go_wp2_with fail
      go_ret
      exact ⟨ret_bool (by rw [HY.out, Bool.eq_iff_iff]; simp; omega), HB.out⟩

end Go.Proofs.YtnaeglfochnikaaGreat
