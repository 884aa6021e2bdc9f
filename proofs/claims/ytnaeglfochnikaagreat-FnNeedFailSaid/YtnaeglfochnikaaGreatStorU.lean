/-
  The walk of the reference's StoreValid: whether a list is a store. Condition: lengths fit an int64.
-/
import Derived.Test.YtnaeglfochnikaaGreatStorV
namespace Go.Proofs.YtnaeglfochnikaaGreat
set_option linter.unusedVariables false
set_option linter.unusedSimpArgs false
open Go.RowKit

set_option maxRecDepth 100000 in
set_option maxHeartbeats 1600000 in
theorem specStoreValid_any (os : List ObjD) (A : Option Addr) (n c : Nat) (w : World) (lo hi : Nat) (hh : hi ≤ w.heap.size) (h : D.rd w lo hi (dObjects os) (.slice A n c)) :
    Calls Tryz.prog 21 #[.slice A n c] w fun e w' => e = .returned (.bool (storeB os)) ∧ Below w.heap.size w w' := by
  have HI := Lib.hid h
  have HN := Lib.hid h.len.1
  have hn63 : n ≤ 9223372036854775807 := by have := h.len; omega
  clear h
  go_enter Tryz.func21, Tryz.ntmps21
  go_wp2_with fail
  go_loopw [3] (fun i wr => ∃ k : Nat, k ≤ n ∧ i = .int .i64 k ∧ Hid (allTo (storeAt os) k = true) ∧ Below w.heap.size w wr) (fun i _ => n - (intOf i).toNat)
  case atStart => exact ⟨0, Nat.zero_le _, rfl, rfl, Below.refl _ _⟩
  case round =>
    obtain ⟨k, hk, rfl, HT, hbw⟩ := hrel
    have HB := Lib.hid hbw
    have hwsz := hbw.size
    clear hbw
    by_cases hlt : k < n
    · have HIR := Lib.hid (HI.out.below HB.out hh)
      obtain ⟨b, o, hl, A1, n1, c1, rfl, _, hbh, k0, k1, k2, ⟨hn1, hm1, hr1⟩, ht2⟩ := rd_Object HIR.out hlt
      have hhr : hi ≤ wr.drew.heap.size := Nat.le_trans hh hwsz
      have lb : b < wr.heap.size := by omega
      have HR1 := Lib.hid hr1.drew
      clear hr1
      rcases hv : objB os[k] with _ | _
      · have hno := Lib.hid (storeB_no hl (storeAt_bad hl hv))
        have HVV := Lib.hid hv
        clear hv
        go_wp2_with fail
        refine wp_region_any (by kernel_rfl) ?_
        change wpAny _ _ _ _ _ _ _ (World.drew _)
        refine wpAny_take (i := 0) (v := .slice (some ⟨b, o, none⟩) n c) rfl (by kernel_rfl) (by kernel_rfl) (by kernel_rfl) (fun _ _ _ h => h) (Or.inl ⟨by rfl, fun W => by go_simp⟩) ?_
        go_simp
        refine wpAny_take (i := 1) (v := .int .i64 (k : Int)) rfl (by kernel_rfl) (by kernel_rfl) (by kernel_rfl) (fun _ _ _ h => h) (Or.inl ⟨by rfl, fun W => by go_simp⟩) ?_
        go_simp
        refine wpAny_ready (rs := [2]) (by kernel_rfl) (by simp) ?_
        refine AllReady.cons rfl (fun K hK => ?_) AllReady.nil
        go_simp
        refine hK _ _ ?_
        clear hK K
        refine wpAny_ready (rs := [3]) (by kernel_rfl) (by simp) ?_
        refine AllReady.cons rfl (fun K hK => ?_) AllReady.nil
        go_simp
        refine hK _ _ ?_
        clear hK K
        refine wpAny_ready (rs := [4]) (by kernel_rfl) (by simp) ?_
        refine AllReady.cons rfl (fun K hK => ?_) AllReady.nil
        go_simp
        refine (objValid_any os[k].kind os[k].links os[k].text A1 n1 c1 _ lo hi hhr ht2 HR1.out).mono ?_
        rintro e w2 ⟨rfl, hb2'⟩
        have hb2 := below_of_drew hb2'
        have HB2 := Lib.hid (bel_tr HB.out (Nat.le_refl _) hb2)
        clear hb2 hb2'
        rw [show objB ⟨os[k].kind, os[k].links, os[k].text⟩ = false from HVV.out]
        refine hK _ _ ?_
        clear hK K
        refine wpAny_take (i := 5) (v := .bool true) rfl (by kernel_rfl) (by kernel_rfl) (by kernel_rfl) (fun _ _ _ h => h) (Or.inl ⟨by rfl, fun W => by go_simp⟩) ?_
        go_simp
        refine wpAny_take (i := 6) (v := .bool true) rfl (by kernel_rfl) (by kernel_rfl) (by kernel_rfl) (fun _ _ _ h => h) (Or.inl ⟨by rfl, fun W => by go_simp⟩) ?_
        go_simp
        refine wpAny_take (i := 7) (v := undef) rfl (by kernel_rfl) (by kernel_rfl) (by kernel_rfl) (fun _ _ _ h => h) (Or.inr ⟨by rfl, rfl⟩) ?_
        go_simp
        refine wpAny_take (i := 8) (v := undef) rfl (by kernel_rfl) (by kernel_rfl) (by kernel_rfl) (fun _ _ _ h => h) (Or.inr ⟨by rfl, rfl⟩) ?_
        go_simp
        refine wpAny_take (i := 9) (v := undef) rfl (by kernel_rfl) (by kernel_rfl) (by kernel_rfl) (fun _ _ _ h => h) (Or.inr ⟨by rfl, rfl⟩) ?_
        go_simp
        refine wpAny_take (i := 10) (v := undef) rfl (by kernel_rfl) (by kernel_rfl) (by kernel_rfl) (fun _ _ _ h => h) (Or.inr ⟨by rfl, rfl⟩) ?_
        go_simp
        refine wpAny_take (i := 11) (v := undef) rfl (by kernel_rfl) (by kernel_rfl) (by kernel_rfl) (fun _ _ _ h => h) (Or.inr ⟨by rfl, rfl⟩) ?_
        go_simp
        refine wpAny_take (i := 12) (v := undef) rfl (by kernel_rfl) (by kernel_rfl) (by kernel_rfl) (fun _ _ _ h => h) (Or.inr ⟨by rfl, rfl⟩) ?_
        go_simp
        refine wpAny_take (i := 13) (v := undef) rfl (by kernel_rfl) (by kernel_rfl) (by kernel_rfl) (fun _ _ _ h => h) (Or.inr ⟨by rfl, rfl⟩) ?_
        go_simp
        refine wpAny_take (i := 14) (v := undef) rfl (by kernel_rfl) (by kernel_rfl) (by kernel_rfl) (fun _ _ _ h => h) (Or.inr ⟨by rfl, rfl⟩) ?_
        go_simp
        refine wpAny_take (i := 15) (v := undef) rfl (by kernel_rfl) (by kernel_rfl) (by kernel_rfl) (fun _ _ _ h => h) (Or.inr ⟨by rfl, rfl⟩) ?_
        go_simp
        refine wpAny_take (i := 16) (v := undef) rfl (by kernel_rfl) (by kernel_rfl) (by kernel_rfl) (fun _ _ _ h => h) (Or.inr ⟨by rfl, rfl⟩) ?_
        go_simp
        refine wpAny_take (i := 17) (v := undef) rfl (by kernel_rfl) (by kernel_rfl) (by kernel_rfl) (fun _ _ _ h => h) (Or.inr ⟨by rfl, rfl⟩) ?_
        go_simp
        refine wpAny_take (i := 18) (v := undef) rfl (by kernel_rfl) (by kernel_rfl) (by kernel_rfl) (fun _ _ _ h => h) (Or.inr ⟨by rfl, rfl⟩) ?_
        go_simp
        refine wpAny_take (i := 19) (v := undef) rfl (by kernel_rfl) (by kernel_rfl) (by kernel_rfl) (fun _ _ _ h => h) (Or.inr ⟨by rfl, rfl⟩) ?_
        go_simp
        refine wpAny_take (i := 20) (v := undef) rfl (by kernel_rfl) (by kernel_rfl) (by kernel_rfl) (fun _ _ _ h => h) (Or.inr ⟨by rfl, rfl⟩) ?_
        go_simp
        refine wpAny_take (i := 21) (v := undef) rfl (by kernel_rfl) (by kernel_rfl) (by kernel_rfl) (fun _ _ _ h => h) (Or.inr ⟨by rfl, rfl⟩) ?_
        go_simp
        refine wpAny_take (i := 22) (v := undef) rfl (by kernel_rfl) (by kernel_rfl) (by kernel_rfl) (fun _ _ _ h => h) (Or.inr ⟨by rfl, rfl⟩) ?_
        go_simp
        refine wpAny_take (i := 23) (v := .bool true) rfl (by kernel_rfl) (by kernel_rfl) (by kernel_rfl) (fun _ _ _ h => h) (Or.inl ⟨by rfl, fun W => by go_simp⟩) ?_
        go_simp
        refine wpAny_done (by kernel_rfl) ?_ _
        go_wp2_with fail
        go_ret
        exact ⟨ret_bool hno.out.symm, HB2.out⟩
      · have HVV := Lib.hid hv
        by_cases hk0 : k = 0
        · subst hk0
          have HT2 : Hid (allTo (storeAt os) 1 = true) := allTo_succ HT.out (storeAt_zero hl hv)
          clear hv
          rw [Nat.zero_mul, Nat.add_zero] at k0 k1 k2
          go_wp2_with fail
          refine wp_region_any (by kernel_rfl) ?_
          change wpAny _ _ _ _ _ _ _ (World.drew _)
          refine wpAny_take (i := 0) (v := .slice (some ⟨b, o, none⟩) n c) rfl (by kernel_rfl) (by kernel_rfl) (by kernel_rfl) (fun _ _ _ h => h) (Or.inl ⟨by rfl, fun W => by go_simp⟩) ?_
          go_simp
          refine wpAny_take (i := 1) (v := .int .i64 0) rfl (by kernel_rfl) (by kernel_rfl) (by kernel_rfl) (fun _ _ _ h => h) (Or.inl ⟨by rfl, fun W => by go_simp⟩) ?_
          go_simp
          refine wpAny_ready (rs := [2]) (by kernel_rfl) (by simp) ?_
          refine AllReady.cons rfl (fun K hK => ?_) AllReady.nil
          go_simp
          refine hK _ _ ?_
          clear hK K
          refine wpAny_ready (rs := [3]) (by kernel_rfl) (by simp) ?_
          refine AllReady.cons rfl (fun K hK => ?_) AllReady.nil
          go_simp
          refine hK _ _ ?_
          clear hK K
          refine wpAny_ready (rs := [4]) (by kernel_rfl) (by simp) ?_
          refine AllReady.cons rfl (fun K hK => ?_) AllReady.nil
          go_simp
          refine (objValid_any os[0].kind os[0].links os[0].text A1 n1 c1 _ lo hi hhr ht2 HR1.out).mono ?_
          rintro e w2 ⟨rfl, hb2'⟩
          have hb2 := below_of_drew hb2'
          have HB2 := Lib.hid (bel_tr HB.out (Nat.le_refl _) hb2)
          clear hb2 hb2'
          rw [show objB ⟨os[0].kind, os[0].links, os[0].text⟩ = true from HVV.out]
          refine hK _ _ ?_
          clear hK K
          refine wpAny_take (i := 5) (v := .bool false) rfl (by kernel_rfl) (by kernel_rfl) (by kernel_rfl) (fun _ _ _ h => h) (Or.inl ⟨by rfl, fun W => by go_simp⟩) ?_
          go_simp
          refine wpAny_take (i := 6) (v := .bool false) rfl (by kernel_rfl) (by kernel_rfl) (by kernel_rfl) (fun _ _ _ h => h) (Or.inl ⟨by rfl, fun W => by go_simp⟩) ?_
          go_simp
          refine wpAny_take (i := 7) (v := .int .i64 0) rfl (by kernel_rfl) (by kernel_rfl) (by kernel_rfl) (fun _ _ _ h => h) (Or.inl ⟨by rfl, fun W => by go_simp⟩) ?_
          go_simp
          refine wpAny_take (i := 8) (v := .bool false) rfl (by kernel_rfl) (by kernel_rfl) (by kernel_rfl) (fun _ _ _ h => h) (Or.inl ⟨by rfl, fun W => by go_simp⟩) ?_
          go_simp
          refine wpAny_take (i := 9) (v := .bool false) rfl (by kernel_rfl) (by kernel_rfl) (by kernel_rfl) (fun _ _ _ h => h) (Or.inl ⟨by rfl, fun W => by go_simp⟩) ?_
          go_simp
          refine wpAny_take (i := 10) (v := undef) rfl (by kernel_rfl) (by kernel_rfl) (by kernel_rfl) (fun _ _ _ h => h) (Or.inr ⟨by rfl, rfl⟩) ?_
          go_simp
          refine wpAny_take (i := 11) (v := undef) rfl (by kernel_rfl) (by kernel_rfl) (by kernel_rfl) (fun _ _ _ h => h) (Or.inr ⟨by rfl, rfl⟩) ?_
          go_simp
          refine wpAny_take (i := 12) (v := undef) rfl (by kernel_rfl) (by kernel_rfl) (by kernel_rfl) (fun _ _ _ h => h) (Or.inr ⟨by rfl, rfl⟩) ?_
          go_simp
          refine wpAny_take (i := 13) (v := undef) rfl (by kernel_rfl) (by kernel_rfl) (by kernel_rfl) (fun _ _ _ h => h) (Or.inr ⟨by rfl, rfl⟩) ?_
          go_simp
          refine wpAny_take (i := 14) (v := undef) rfl (by kernel_rfl) (by kernel_rfl) (by kernel_rfl) (fun _ _ _ h => h) (Or.inr ⟨by rfl, rfl⟩) ?_
          go_simp
          refine wpAny_take (i := 15) (v := undef) rfl (by kernel_rfl) (by kernel_rfl) (by kernel_rfl) (fun _ _ _ h => h) (Or.inr ⟨by rfl, rfl⟩) ?_
          go_simp
          refine wpAny_take (i := 16) (v := undef) rfl (by kernel_rfl) (by kernel_rfl) (by kernel_rfl) (fun _ _ _ h => h) (Or.inr ⟨by rfl, rfl⟩) ?_
          go_simp
          refine wpAny_take (i := 17) (v := undef) rfl (by kernel_rfl) (by kernel_rfl) (by kernel_rfl) (fun _ _ _ h => h) (Or.inr ⟨by rfl, rfl⟩) ?_
          go_simp
          refine wpAny_take (i := 18) (v := undef) rfl (by kernel_rfl) (by kernel_rfl) (by kernel_rfl) (fun _ _ _ h => h) (Or.inr ⟨by rfl, rfl⟩) ?_
          go_simp
          refine wpAny_take (i := 19) (v := undef) rfl (by kernel_rfl) (by kernel_rfl) (by kernel_rfl) (fun _ _ _ h => h) (Or.inr ⟨by rfl, rfl⟩) ?_
          go_simp
          refine wpAny_take (i := 20) (v := undef) rfl (by kernel_rfl) (by kernel_rfl) (by kernel_rfl) (fun _ _ _ h => h) (Or.inr ⟨by rfl, rfl⟩) ?_
          go_simp
          refine wpAny_take (i := 21) (v := undef) rfl (by kernel_rfl) (by kernel_rfl) (by kernel_rfl) (fun _ _ _ h => h) (Or.inr ⟨by rfl, rfl⟩) ?_
          go_simp
          refine wpAny_take (i := 22) (v := .bool false) rfl (by kernel_rfl) (by kernel_rfl) (by kernel_rfl) (fun _ _ _ h => h) (Or.inl ⟨by rfl, fun W => by go_simp⟩) ?_
          go_simp
          refine wpAny_take (i := 23) (v := .bool false) rfl (by kernel_rfl) (by kernel_rfl) (by kernel_rfl) (fun _ _ _ h => h) (Or.inl ⟨by rfl, fun W => by go_simp⟩) ?_
          go_simp
          refine wpAny_done (by kernel_rfl) ?_ _
          go_wp2_with fail
          go_roundw
          case rel => exact ⟨1, by omega, by go_num, HT2, HB2.out⟩
          case measure => simp [intOf]; omega
        · have hkp : 0 < k := by omega
          have hd : decide ((0 : Int) < (k : Int)) = true := by simp; omega
          have hx1 : (0 : Int) ≤ (k : Int) - 1 := by omega
          have hx2 : (k : Int) - 1 < (n : Int) := by omega
          have hx3 : ((k : Int) - 1).toNat = k - 1 := by omega
          have hx4 : (1 : Int) ≤ (k : Int) := by omega
          have hx5 : (k : Int) < (n : Int) + 1 := by omega
          have hx6 : IntKind.i64.wrap ((k : Int) - 1) = (k : Int) - 1 := by rw [IntKind.wrap_i64]; omega
          clear hk0
          obtain ⟨b', o', hl', Aq, nq, cq, he, _, _, k3, k4, k5, ⟨_, _, hrq⟩, _⟩ := rd_Object HIR.out (k := k - 1) (by omega)
          injection he with he
          injection he with he1 he2
          subst he1 he2
          have HRP := Lib.hid hrq
          have HVP : Hid (objB ⟨os[k - 1].kind, os[k - 1].links, os[k - 1].text⟩ = true) := Lib.hid (show objB os[k - 1] = true from ((storeAt_iff hl').1 ((allTo_iff _ _).1 HT.out (k - 1) (by omega))).1)
          have HCM := Lib.hid (storeAt_cmp hl hl' hkp hv)
          obtain ⟨i1, hi1⟩ : ∃ i1, idB ⟨os[k - 1].kind, os[k - 1].links, os[k - 1].text⟩ = i1 := ⟨_, rfl⟩
          obtain ⟨i2, hi2⟩ : ∃ i2, idB ⟨os[k].kind, os[k].links, os[k].text⟩ = i2 := ⟨_, rfl⟩
          have HI1 := Lib.hid hi1
          have HI2 := Lib.hid hi2
          have HC2 : Hid (storeAt os k = decide (i1 < i2)) := by rw [← hi1, ← hi2]; exact HCM
          clear hrq hv hi1 hi2 HCM
          by_cases hlt2 : i1 < i2
          · have HT2 : Hid (allTo (storeAt os) (k + 1) = true) := allTo_succ HT.out (by rw [HC2.out]; exact decide_eq_true hlt2)
            go_wp2_with fail
            go_region_held3 (fun w' => w'.cell? ⟨b, o + k * 3, none⟩ = some (.int .i64 os[k].kind) ∧ w'.cell? ⟨b, o + k * 3 + 1, none⟩ = some (.slice A1 n1 c1) ∧ w'.cell? ⟨b, o + k * 3 + 2, none⟩ = some (.string os[k].text) ∧ w'.cell? ⟨b, o + (k - 1) * 3, none⟩ = some (.int .i64 os[k - 1].kind) ∧ w'.cell? ⟨b, o + (k - 1) * 3 + 1, none⟩ = some (.slice Aq nq cq) ∧ w'.cell? ⟨b, o + (k - 1) * 3 + 2, none⟩ = some (.string os[k - 1].text)) (go_keep)
              (first | (go_at_call 49; refine (objValid_any os[k].kind os[k].links os[k].text A1 n1 c1 _ lo hi hhr ht2 HR1.out).mono ?_; rintro e w2 ⟨rfl, hb2'⟩; have hb2 := below_of_drew hb2'; have g0 : w2.cell? ⟨b, o + k * 3, none⟩ = some (.int .i64 os[k].kind) := (hb2.cell lb).trans k0; have g1 : w2.cell? ⟨b, o + k * 3 + 1, none⟩ = some (.slice A1 n1 c1) := (hb2.cell lb).trans k1; have g2 : w2.cell? ⟨b, o + k * 3 + 2, none⟩ = some (.string os[k].text) := (hb2.cell lb).trans k2; have g3 : w2.cell? ⟨b, o + (k - 1) * 3, none⟩ = some (.int .i64 os[k - 1].kind) := (hb2.cell lb).trans k3; have g4 : w2.cell? ⟨b, o + (k - 1) * 3 + 1, none⟩ = some (.slice Aq nq cq) := (hb2.cell lb).trans k4; have g5 : w2.cell? ⟨b, o + (k - 1) * 3 + 2, none⟩ = some (.string os[k - 1].text) := (hb2.cell lb).trans k5; rw [show objB ⟨os[k].kind, os[k].links, os[k].text⟩ = true from HVV.out]; have mb : b < w2.heap.size := Nat.lt_of_lt_of_le lb hb2.size; have HRP2 := Lib.hid (HRP.out.below hb2 hhr); have HR12 := Lib.hid (HR1.out.below hb2' hhr); have hh2 : hi ≤ w2.heap.size := Nat.le_trans hhr hb2.size; have HB2 := Lib.hid (bel_tr HB.out (Nat.le_refl _) hb2); have tok1 : True := trivial; clear hb2 hb2') | (have _t := tok1; go_at_call 50; refine (l1Of_any os[k - 1].kind os[k - 1].links os[k - 1].text Aq nq cq _ lo hi hh2 HVP.out HRP2.out).mono ?_; rintro e w3 ⟨rfl, hb3⟩; rw [HI1.out]; have h0 : w3.cell? ⟨b, o + k * 3, none⟩ = some (.int .i64 os[k].kind) := (hb3.cell mb).trans g0; have h1 : w3.cell? ⟨b, o + k * 3 + 1, none⟩ = some (.slice A1 n1 c1) := (hb3.cell mb).trans g1; have h2 : w3.cell? ⟨b, o + k * 3 + 2, none⟩ = some (.string os[k].text) := (hb3.cell mb).trans g2; have h3 : w3.cell? ⟨b, o + (k - 1) * 3, none⟩ = some (.int .i64 os[k - 1].kind) := (hb3.cell mb).trans g3; have h4 : w3.cell? ⟨b, o + (k - 1) * 3 + 1, none⟩ = some (.slice Aq nq cq) := (hb3.cell mb).trans g4; have h5 : w3.cell? ⟨b, o + (k - 1) * 3 + 2, none⟩ = some (.string os[k - 1].text) := (hb3.cell mb).trans g5; have qb : b < w3.heap.size := Nat.lt_of_lt_of_le mb hb3.size; have HR13 := Lib.hid (HR12.out.below hb3 hh2); have hh3 : hi ≤ w3.heap.size := Nat.le_trans hh2 hb3.size; have HB3 := Lib.hid (bel_tr HB2.out (Nat.le_refl _) hb3); have tok2 : True := trivial; clear tok1 hb3) | (have _t := tok2; go_at_call 50; refine (l1Of_any os[k].kind os[k].links os[k].text A1 n1 c1 _ lo hi hh3 HVV.out HR13.out).mono ?_; rintro e w4 ⟨rfl, hb4⟩; rw [HI2.out]; have i0 : w4.cell? ⟨b, o + k * 3, none⟩ = some (.int .i64 os[k].kind) := (hb4.cell qb).trans h0; have i1 : w4.cell? ⟨b, o + k * 3 + 1, none⟩ = some (.slice A1 n1 c1) := (hb4.cell qb).trans h1; have i2 : w4.cell? ⟨b, o + k * 3 + 2, none⟩ = some (.string os[k].text) := (hb4.cell qb).trans h2; have i3 : w4.cell? ⟨b, o + (k - 1) * 3, none⟩ = some (.int .i64 os[k - 1].kind) := (hb4.cell qb).trans h3; have i4 : w4.cell? ⟨b, o + (k - 1) * 3 + 1, none⟩ = some (.slice Aq nq cq) := (hb4.cell qb).trans h4; have i5 : w4.cell? ⟨b, o + (k - 1) * 3 + 2, none⟩ = some (.string os[k - 1].text) := (hb4.cell qb).trans h5; have HB4 := Lib.hid (bel_tr HB3.out (Nat.le_refl _) hb4); clear tok2 hb4))
            go_wp2_with fail
            go_roundw
            case rel => exact ⟨k + 1, by omega, by go_num, HT2, HB4.out⟩
            case measure => simp [intOf]; omega
          · have hno := Lib.hid (storeB_no hl (by rw [HC2.out]; exact decide_eq_false hlt2))
            have hge : i2 ≤ i1 := by omega
            clear hlt2
            go_wp2_with fail
            go_region_held3 (fun w' => w'.cell? ⟨b, o + k * 3, none⟩ = some (.int .i64 os[k].kind) ∧ w'.cell? ⟨b, o + k * 3 + 1, none⟩ = some (.slice A1 n1 c1) ∧ w'.cell? ⟨b, o + k * 3 + 2, none⟩ = some (.string os[k].text) ∧ w'.cell? ⟨b, o + (k - 1) * 3, none⟩ = some (.int .i64 os[k - 1].kind) ∧ w'.cell? ⟨b, o + (k - 1) * 3 + 1, none⟩ = some (.slice Aq nq cq) ∧ w'.cell? ⟨b, o + (k - 1) * 3 + 2, none⟩ = some (.string os[k - 1].text)) (go_keep)
              (first | (go_at_call 49; refine (objValid_any os[k].kind os[k].links os[k].text A1 n1 c1 _ lo hi hhr ht2 HR1.out).mono ?_; rintro e w2 ⟨rfl, hb2'⟩; have hb2 := below_of_drew hb2'; have g0 : w2.cell? ⟨b, o + k * 3, none⟩ = some (.int .i64 os[k].kind) := (hb2.cell lb).trans k0; have g1 : w2.cell? ⟨b, o + k * 3 + 1, none⟩ = some (.slice A1 n1 c1) := (hb2.cell lb).trans k1; have g2 : w2.cell? ⟨b, o + k * 3 + 2, none⟩ = some (.string os[k].text) := (hb2.cell lb).trans k2; have g3 : w2.cell? ⟨b, o + (k - 1) * 3, none⟩ = some (.int .i64 os[k - 1].kind) := (hb2.cell lb).trans k3; have g4 : w2.cell? ⟨b, o + (k - 1) * 3 + 1, none⟩ = some (.slice Aq nq cq) := (hb2.cell lb).trans k4; have g5 : w2.cell? ⟨b, o + (k - 1) * 3 + 2, none⟩ = some (.string os[k - 1].text) := (hb2.cell lb).trans k5; rw [show objB ⟨os[k].kind, os[k].links, os[k].text⟩ = true from HVV.out]; have mb : b < w2.heap.size := Nat.lt_of_lt_of_le lb hb2.size; have HRP2 := Lib.hid (HRP.out.below hb2 hhr); have HR12 := Lib.hid (HR1.out.below hb2' hhr); have hh2 : hi ≤ w2.heap.size := Nat.le_trans hhr hb2.size; have HB2 := Lib.hid (bel_tr HB.out (Nat.le_refl _) hb2); have tok1 : True := trivial; clear hb2 hb2') | (have _t := tok1; go_at_call 50; refine (l1Of_any os[k - 1].kind os[k - 1].links os[k - 1].text Aq nq cq _ lo hi hh2 HVP.out HRP2.out).mono ?_; rintro e w3 ⟨rfl, hb3⟩; rw [HI1.out]; have h0 : w3.cell? ⟨b, o + k * 3, none⟩ = some (.int .i64 os[k].kind) := (hb3.cell mb).trans g0; have h1 : w3.cell? ⟨b, o + k * 3 + 1, none⟩ = some (.slice A1 n1 c1) := (hb3.cell mb).trans g1; have h2 : w3.cell? ⟨b, o + k * 3 + 2, none⟩ = some (.string os[k].text) := (hb3.cell mb).trans g2; have h3 : w3.cell? ⟨b, o + (k - 1) * 3, none⟩ = some (.int .i64 os[k - 1].kind) := (hb3.cell mb).trans g3; have h4 : w3.cell? ⟨b, o + (k - 1) * 3 + 1, none⟩ = some (.slice Aq nq cq) := (hb3.cell mb).trans g4; have h5 : w3.cell? ⟨b, o + (k - 1) * 3 + 2, none⟩ = some (.string os[k - 1].text) := (hb3.cell mb).trans g5; have qb : b < w3.heap.size := Nat.lt_of_lt_of_le mb hb3.size; have HR13 := Lib.hid (HR12.out.below hb3 hh2); have hh3 : hi ≤ w3.heap.size := Nat.le_trans hh2 hb3.size; have HB3 := Lib.hid (bel_tr HB2.out (Nat.le_refl _) hb3); have tok2 : True := trivial; clear tok1 hb3) | (have _t := tok2; go_at_call 50; refine (l1Of_any os[k].kind os[k].links os[k].text A1 n1 c1 _ lo hi hh3 HVV.out HR13.out).mono ?_; rintro e w4 ⟨rfl, hb4⟩; rw [HI2.out]; have i0 : w4.cell? ⟨b, o + k * 3, none⟩ = some (.int .i64 os[k].kind) := (hb4.cell qb).trans h0; have i1 : w4.cell? ⟨b, o + k * 3 + 1, none⟩ = some (.slice A1 n1 c1) := (hb4.cell qb).trans h1; have i2 : w4.cell? ⟨b, o + k * 3 + 2, none⟩ = some (.string os[k].text) := (hb4.cell qb).trans h2; have i3 : w4.cell? ⟨b, o + (k - 1) * 3, none⟩ = some (.int .i64 os[k - 1].kind) := (hb4.cell qb).trans h3; have i4 : w4.cell? ⟨b, o + (k - 1) * 3 + 1, none⟩ = some (.slice Aq nq cq) := (hb4.cell qb).trans h4; have i5 : w4.cell? ⟨b, o + (k - 1) * 3 + 2, none⟩ = some (.string os[k - 1].text) := (hb4.cell qb).trans h5; have HB4 := Lib.hid (bel_tr HB3.out (Nat.le_refl _) hb4); clear tok2 hb4))
            go_wp2_with fail
            go_ret
            exact ⟨ret_bool hno.out.symm, HB4.out⟩
    · have hkn : k = n := by omega
      subst hkn
      have HY := Lib.hid (storeB_all (os := os) HN.out.symm HT.out)
      go_wp2_with fail
      go_ret
      exact ⟨ret_bool (by rw [HY.out, Bool.eq_iff_iff]; simp; omega), HB.out⟩

end Go.Proofs.YtnaeglfochnikaaGreat
