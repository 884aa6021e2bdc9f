/-
  The draw of ids out of a list of objects (l91Ids). Condition: valid objects; few draws so far.
-/
import Derived.Test.YtnaeglfochnikaaGreatDrawP2
import Derived.Test.YtnaeglfochnikaaGreatZ3
namespace Go.Proofs.YtnaeglfochnikaaGreat
set_option linter.unusedVariables false
set_option linter.unusedSimpArgs false
open Go.RowKit

/-- a row of numbers that is being drawn -/
def RowI (w wr : World) (g K : Nat) (v : Value) (xs : List Int) : Prop := wr.ownsRow w.heap.size 3 1 v xs.length (xs.flatMap ci) ∧ DrawT w wr g K
section
variable {w wr w' : World} {g K K' : Nat} {v v' : Value} {xs : List Int}
theorem RowI.more (h : RowI w wr g K v xs) (hK : K ≤ K') : RowI w wr g K' v xs := ⟨h.1, h.2.more hK⟩
theorem RowI.step (h : RowI w wr g K v xs) (hg0 : g < w.heap.size) (hg : wr.grownBy w' (some g)) (hR : Rdr w' g K') : RowI w w' g K' v xs := ⟨own_kept_row h.1 hg hg0, h.2.step hg hR⟩
theorem RowI.draw (h : RowI w wr g K v xs) (hg0 : g < w.heap.size) (hd : DrawT wr w' g K') : RowI w w' g K' v xs := ⟨own_kept_row h.1 hd.1 hg0, h.2.tr hd⟩
theorem RowI.fresh (h : RowI w wr g K v xs) (hb : Below wr.heap.size wr w') : RowI w w' g K v xs := ⟨own_below h.1 hb, grown_tr h.2.1 (grown_none hb _), h.2.2.grown (grown_none hb none) (fun q hq => by cases hq)⟩
theorem RowI.alloc (h : RowI w wr g K v xs) (o : Obj) : RowI w (wr.alloc o) g K v xs := ⟨h.1.alloc o, h.2.alloc o⟩
theorem RowI.app {x : Int} (h : RowI w wr g K v xs) (hg0 : g < w.heap.size) (ho : w'.ownsRow w.heap.size 3 1 v' (xs.length + 1) (xs.flatMap ci ++ [.int .i64 x])) (hg : wr.grownBy w' v.ownBlock) : RowI w w' g K v' (xs ++ [x]) :=
  ⟨by rw [List.length_append, List.flatMap_append]; exact ho, DrawT.own hg0 h.2 h.1 hg⟩
theorem RowI.shape (h : RowI w wr g K v xs) : ∃ A c, v = .slice A xs.length c := by
  obtain ⟨A, c, e, -⟩ := Rd.of_own h.1
  exact ⟨A, c, e⟩
theorem RowI.rd {A : Option Addr} {n c : Nat} (h : RowI w wr g K (.slice A n c) xs) : D.rd wr w.heap.size wr.heap.size (intsD xs) (.slice A n c) := by
  obtain ⟨A', c', e, -⟩ := Rd.of_own h.1
  injection e with e1 e2 e3
  subst e1 e2 e3
  exact (own_ints h.1).rd
end
theorem own_lowI {w : World} {base base' size n : Nat} {e : TypeId} {v : Value} {cs : List Value} (h : w.ownsRow base e size v n cs) (hb : base' ≤ base) : w.ownsRow base' e size v n cs := by
  refine ⟨h.1, ?_⟩
  rcases h.2 with h2 | ⟨g, cap, cur, h2, h3, h4⟩
  · exact .inl h2
  · exact .inr ⟨g, cap, cur, h2, Nat.le_trans hb h3, h4⟩
theorem srtL_len9 (xs : List Int) : (srtL xs).length ≤ 991 := srtTo_len xs 991
/-- ids that have been drawn -/
def DrawnI (w w' : World) (g K : Nat) (e : Ending) : Prop :=
  ∃ (xs : List Int) (A : Option Addr) (n c : Nat), D.rd w' w.heap.size w'.heap.size (intsD xs) (.slice A n c) ∧ xs.length ≤ 1000 ∧ DrawT w w' g K ∧ e = .returned (.slice A n c)

set_option maxRecDepth 100000 in
set_option maxHeartbeats 3200000 in
theorem l91Ids_any (g K : Nat) (os : List ObjD) (A : Option Addr) (n c : Nat) (w : World) (lo hi : Nat) (hK : K ≤ 900000) (hh : hi ≤ w.heap.size) (hgl : g < lo ∨ hi ≤ g) (hn : n ≤ 1000) (hv : ∀ o ∈ os, objB o = true) (ho : D.rd w lo hi (dObjects os) (.slice A n c)) (h : Rdr w g K) :
    Calls Tryz.prog 40 #[.pointer (some ⟨g, 0, none⟩), .slice A n c] w fun e w' => DrawnI w w' g (K + 12) e := by
  have hg0 := h.lt
  have HI := Lib.hid ho
  have HV := Lib.hid hv
  obtain ⟨w1, hw1⟩ : ∃ z, z = w.alloc (.cells #[] 3) := ⟨_, rfl⟩
  obtain ⟨e0, he0⟩ : ∃ z, z = w.heap.size := ⟨_, rfl⟩
  have HR1 : Hid (RowI w w1 g K (.slice (some ⟨e0, 0, none⟩) 0 0) []) := by rw [hw1, he0]; exact Lib.hid ⟨own_nil_lit w 3 1, (DrawT.refl h).alloc _⟩
  clear h ho hv
  go_enter Tryz.func40, Tryz.ntmps40
  go_upto_region 2 with (fail)
  rw [← hw1, ← he0]
  clear hw1 he0
  go_wp2_with fail
  refine (pick_any g K 4 _ (by omega) HR1.out.2.2).mono ?_
  rintro e w2 ⟨r2, hr2, hR2, hg2, -, rfl⟩
  have HR2 := Lib.hid (HR1.out.step hg0 hg2 hR2)
  have h24 : r2 < 4 := hr2.2 (by omega)
  have h20 := hr2.1
  clear hR2 hg2 hr2
  go_wp2_with fail
  go_loopw [5, 7] (fun v i wr => ∃ (k : Nat) (xs : List Int), (k : Int) ≤ 4 ∧ xs.length ≤ k ∧ i = .int .i64 k ∧ Hid (RowI w wr g (K + 1 + k) v xs)) (fun _ i _ => 4 - (intOf i).toNat)
  case atStart => exact ⟨0, [], by omega, Nat.zero_le _, rfl, HR2⟩
  case round =>
    obtain ⟨k, xs, hk, hxk, rfl, HX⟩ := hrel
    obtain ⟨Av, cv, rfl⟩ := HX.out.shape
    by_cases hlt : (k : Int) < r2
    · by_cases hn0 : 0 < n
      · have hn0' : (0 : Int) < (n : Int) := by omega
        go_wp2_with fail
        refine (pick_any g (K + 1 + k) n _ (by omega) HX.out.2.2).mono ?_
        rintro e w3 ⟨r3, hr3, hR3, hg3, -, rfl⟩
        have HX3 := Lib.hid (HX.out.step hg0 hg3 hR3)
        obtain ⟨j, rfl⟩ := Int.eq_ofNat_of_zero_le hr3.1
        have hjn : j < n := by have := hr3.2 (by omega); omega
        have hh3 : hi ≤ w3.heap.size := Nat.le_trans hh HX3.out.2.1.size
        obtain ⟨b1, o1, hl, A1, n1, c1, rfl, _, hbh, hc0, hc1, hc2, ⟨hn1, hm1, hr1⟩, ht2⟩ := rd_Object (HI.out.grown HX3.out.2.1 hh (fun q e => by injection e with e; omega)) hjn
        have HOK := Lib.hid (HV.out _ (List.getElem_mem hl))
        have HR1' := Lib.hid hr1
        obtain ⟨ob, hob⟩ : ∃ z, z = os[j] := ⟨_, rfl⟩
        rw [← hob] at hc0 hc2 HOK HR1'
        clear hR3 hg3 hr3 hr1 hob
        go_wp2_with fail
        refine (l1Of_any ob.kind ob.links ob.text A1 n1 c1 w3 lo hi hh3 HOK.out HR1'.out).mono ?_
        rintro e w7 ⟨rfl, hb7⟩
        have HX7 := Lib.hid (HX3.out.fresh hb7)
        obtain ⟨x7, hx7⟩ : ∃ z, idB ob = z := ⟨_, rfl⟩
        rw [show idB ⟨ob.kind, ob.links, ob.text⟩ = x7 from hx7]
        clear hb7 hx7 hc0 hc1 hc2
        go_wp2_with (at_builtin; go_must (refine wpList_app_at Tryz.elI (m := 1) (HX7.out.alloc _).1 (rd_newn (n := w7.heap.size) rfl [.int .i64 x7] 3) rfl (by simp [Value.oneCell']) (by unfold maxLen; omega) (by omega) (by have := HX7.out.2.1.size; simp; omega) rfl rfl rfl rfl ?_); intro v8 w8 hown8 hg8 hat8; go_must (have HX8 := Lib.hid ((HX7.out.alloc _).app hg0 hown8 hg8)); obtain ⟨A8, c8, rfl⟩ := HX8.out.shape; rw [List.length_append, List.length_singleton] at HX8; clear hown8 hg8 hat8)
        go_roundw
        case rel => exact ⟨k + 1, xs ++ [x7], by omega, by rw [List.length_append, List.length_singleton]; omega, by go_num, HX8.out.more (by omega)⟩
        case measure => simp [intOf]; omega
      · have hn0' : n = 0 := by omega
        subst hn0'
        go_wp2_with fail
        refine (pick_any g (K + 1 + k) 10 _ (by omega) HX.out.2.2).mono ?_
        rintro e w4 ⟨r4, hr4, hR4, hg4, -, rfl⟩
        have HX4 := Lib.hid (HX.out.step hg0 hg4 hR4)
        have h40 := hr4.1
        clear hR4 hg4 hr4
        by_cases h4 : r4 = 0
        · subst h4
          go_wp2_with fail
          refine (pick_any g (K + 1 + k + 1) 99 _ (by omega) HX4.out.2.2).mono ?_
          rintro e w5 ⟨r5, hr5, hR5, hg5, -, rfl⟩
          have HX5 := Lib.hid (HX4.out.step hg0 hg5 hR5)
          have h50 := hr5.1
          have h59 : r5 < 99 := hr5.2 (by omega)
          clear hR5 hg5 hr5
          go_upto_region 9 with (at_builtin; go_must (refine wpList_app_at Tryz.elI (m := 1) (HX5.out.alloc _).1 (rd_newn (n := w5.heap.size) rfl [.int .i64 (10 * r5)] 3) rfl (by simp [Value.oneCell']) (by unfold maxLen; omega) (by omega) (by have := HX5.out.2.1.size; simp; omega) rfl rfl rfl rfl ?_); intro v8 w8 hown8 hg8 hat8; go_must (have HX8 := Lib.hid ((HX5.out.alloc _).app hg0 hown8 hg8)); obtain ⟨A8, c8, rfl⟩ := HX8.out.shape; rw [List.length_append, List.length_singleton] at HX8; clear hown8 hg8 hat8)
          go_wp2_with fail
          refine (l1Sorted_any _ _ _ _ _ w.heap.size w8.heap.size (Nat.le_refl _) (by omega) HX8.out.rd.ints).mono ?_
          rintro e ws ⟨vs, hown, hbs, rfl⟩
          have hqs := srtL_len9 (xs ++ [10 * r5])
          generalize hys : srtL (xs ++ [10 * r5]) = ys at hown hqs
          have HXS0 : Hid (RowI w ws g (K + 1 + k + 1 + 1) vs ys) := Lib.hid ⟨own_lowI hown (HX8.out.2.1.size), (HX8.out.fresh hbs).2⟩
          obtain ⟨As, cs, rfl⟩ := HXS0.out.shape
          have HXS : Hid (RowI w ws g (K + 1 + k + 1 + 1) (.slice As ys.length cs) ys) := HXS0
          clear hown hbs hys HXS0
          go_wp2_with fail
          refine (pick_any g (K + 1 + k + 1 + 1) 30 _ (by omega) HXS.out.2.2).mono ?_
          rintro e w6 ⟨r6, hr6, hR6, hg6, -, rfl⟩
          have HX6 := Lib.hid (HXS.out.step hg0 hg6 hR6)
          have h60 := hr6.1
          clear hR6 hg6 hr6
          by_cases h6 : r6 = 0
          · subst h6
            go_wp2_with fail
            refine (l91Id_any g _ _ (by omega) HX6.out.2.2).mono ?_
            rintro e w7 ⟨x7, -, hD7, rfl⟩
            have HX7 := Lib.hid (HX6.out.draw hg0 hD7)
            clear hD7
            go_wp2_with (at_builtin; go_must (refine wpList_app_at Tryz.elI (m := 1) (HX7.out.alloc _).1 (rd_newn (n := w7.heap.size) rfl [.int .i64 x7] 3) rfl (by simp [Value.oneCell']) (by unfold maxLen; omega) (by omega) (by have := HX7.out.2.1.size; simp; omega) rfl rfl rfl rfl ?_); intro v8 w8 hown8 hg8 hat8; go_must (have HX8 := Lib.hid ((HX7.out.alloc _).app hg0 hown8 hg8)); obtain ⟨A8, c8, rfl⟩ := HX8.out.shape; rw [List.length_append, List.length_singleton] at HX8; clear hown8 hg8 hat8)
            go_ret
            exact ⟨_, _, _, _, HX8.out.rd, by rw [List.length_append, List.length_singleton]; omega, HX8.out.2.more (by omega), rfl⟩
          · go_wp2_with fail
            go_ret
            exact ⟨_, _, _, _, HX6.out.rd, by omega, HX6.out.2.more (by omega), rfl⟩
        · go_wp2_with fail
          refine (l1Sorted_any _ _ _ _ _ w.heap.size w4.heap.size (Nat.le_refl _) (by omega) HX4.out.rd.ints).mono ?_
          rintro e ws ⟨vs, hown, hbs, rfl⟩
          have hqs := srtL_len9 xs
          generalize hys : srtL xs = ys at hown hqs
          have HXS0 : Hid (RowI w ws g (K + 1 + k + 1) vs ys) := Lib.hid ⟨own_lowI hown (HX4.out.2.1.size), (HX4.out.fresh hbs).2⟩
          obtain ⟨As, cs, rfl⟩ := HXS0.out.shape
          have HXS : Hid (RowI w ws g (K + 1 + k + 1) (.slice As ys.length cs) ys) := HXS0
          clear hown hbs hys HXS0
          go_wp2_with fail
          refine (pick_any g (K + 1 + k + 1) 30 _ (by omega) HXS.out.2.2).mono ?_
          rintro e w6 ⟨r6, hr6, hR6, hg6, -, rfl⟩
          have HX6 := Lib.hid (HXS.out.step hg0 hg6 hR6)
          have h60 := hr6.1
          clear hR6 hg6 hr6
          by_cases h6 : r6 = 0
          · subst h6
            go_wp2_with fail
            refine (l91Id_any g _ _ (by omega) HX6.out.2.2).mono ?_
            rintro e w7 ⟨x7, -, hD7, rfl⟩
            have HX7 := Lib.hid (HX6.out.draw hg0 hD7)
            clear hD7
            go_wp2_with (at_builtin; go_must (refine wpList_app_at Tryz.elI (m := 1) (HX7.out.alloc _).1 (rd_newn (n := w7.heap.size) rfl [.int .i64 x7] 3) rfl (by simp [Value.oneCell']) (by unfold maxLen; omega) (by omega) (by have := HX7.out.2.1.size; simp; omega) rfl rfl rfl rfl ?_); intro v8 w8 hown8 hg8 hat8; go_must (have HX8 := Lib.hid ((HX7.out.alloc _).app hg0 hown8 hg8)); obtain ⟨A8, c8, rfl⟩ := HX8.out.shape; rw [List.length_append, List.length_singleton] at HX8; clear hown8 hg8 hat8)
            go_ret
            exact ⟨_, _, _, _, HX8.out.rd, by rw [List.length_append, List.length_singleton]; omega, HX8.out.2.more (by omega), rfl⟩
          · go_wp2_with fail
            go_ret
            exact ⟨_, _, _, _, HX6.out.rd, by omega, HX6.out.2.more (by omega), rfl⟩
    · have hge : r2 ≤ (k : Int) := by omega
      go_wp2_with fail
      refine (pick_any g (K + 1 + k) 10 _ (by omega) HX.out.2.2).mono ?_
      rintro e w4 ⟨r4, hr4, hR4, hg4, -, rfl⟩
      have HX4 := Lib.hid (HX.out.step hg0 hg4 hR4)
      have h40 := hr4.1
      clear hR4 hg4 hr4
      by_cases h4 : r4 = 0
      · subst h4
        go_wp2_with fail
        refine (pick_any g (K + 1 + k + 1) 99 _ (by omega) HX4.out.2.2).mono ?_
        rintro e w5 ⟨r5, hr5, hR5, hg5, -, rfl⟩
        have HX5 := Lib.hid (HX4.out.step hg0 hg5 hR5)
        have h50 := hr5.1
        have h59 : r5 < 99 := hr5.2 (by omega)
        clear hR5 hg5 hr5
        go_upto_region 9 with (at_builtin; go_must (refine wpList_app_at Tryz.elI (m := 1) (HX5.out.alloc _).1 (rd_newn (n := w5.heap.size) rfl [.int .i64 (10 * r5)] 3) rfl (by simp [Value.oneCell']) (by unfold maxLen; omega) (by omega) (by have := HX5.out.2.1.size; simp; omega) rfl rfl rfl rfl ?_); intro v8 w8 hown8 hg8 hat8; go_must (have HX8 := Lib.hid ((HX5.out.alloc _).app hg0 hown8 hg8)); obtain ⟨A8, c8, rfl⟩ := HX8.out.shape; rw [List.length_append, List.length_singleton] at HX8; clear hown8 hg8 hat8)
        go_wp2_with fail
        refine (l1Sorted_any _ _ _ _ _ w.heap.size w8.heap.size (Nat.le_refl _) (by omega) HX8.out.rd.ints).mono ?_
        rintro e ws ⟨vs, hown, hbs, rfl⟩
        have hqs := srtL_len9 (xs ++ [10 * r5])
        generalize hys : srtL (xs ++ [10 * r5]) = ys at hown hqs
        have HXS0 : Hid (RowI w ws g (K + 1 + k + 1 + 1) vs ys) := Lib.hid ⟨own_lowI hown (HX8.out.2.1.size), (HX8.out.fresh hbs).2⟩
        obtain ⟨As, cs, rfl⟩ := HXS0.out.shape
        have HXS : Hid (RowI w ws g (K + 1 + k + 1 + 1) (.slice As ys.length cs) ys) := HXS0
        clear hown hbs hys HXS0
        go_wp2_with fail
        refine (pick_any g (K + 1 + k + 1 + 1) 30 _ (by omega) HXS.out.2.2).mono ?_
        rintro e w6 ⟨r6, hr6, hR6, hg6, -, rfl⟩
        have HX6 := Lib.hid (HXS.out.step hg0 hg6 hR6)
        have h60 := hr6.1
        clear hR6 hg6 hr6
        by_cases h6 : r6 = 0
        · subst h6
          go_wp2_with fail
          refine (l91Id_any g _ _ (by omega) HX6.out.2.2).mono ?_
          rintro e w7 ⟨x7, -, hD7, rfl⟩
          have HX7 := Lib.hid (HX6.out.draw hg0 hD7)
          clear hD7
          go_wp2_with (at_builtin; go_must (refine wpList_app_at Tryz.elI (m := 1) (HX7.out.alloc _).1 (rd_newn (n := w7.heap.size) rfl [.int .i64 x7] 3) rfl (by simp [Value.oneCell']) (by unfold maxLen; omega) (by omega) (by have := HX7.out.2.1.size; simp; omega) rfl rfl rfl rfl ?_); intro v8 w8 hown8 hg8 hat8; go_must (have HX8 := Lib.hid ((HX7.out.alloc _).app hg0 hown8 hg8)); obtain ⟨A8, c8, rfl⟩ := HX8.out.shape; rw [List.length_append, List.length_singleton] at HX8; clear hown8 hg8 hat8)
          go_ret
          exact ⟨_, _, _, _, HX8.out.rd, by rw [List.length_append, List.length_singleton]; omega, HX8.out.2.more (by omega), rfl⟩
        · go_wp2_with fail
          go_ret
          exact ⟨_, _, _, _, HX6.out.rd, by omega, HX6.out.2.more (by omega), rfl⟩
      · go_wp2_with fail
        refine (l1Sorted_any _ _ _ _ _ w.heap.size w4.heap.size (Nat.le_refl _) (by omega) HX4.out.rd.ints).mono ?_
        rintro e ws ⟨vs, hown, hbs, rfl⟩
        have hqs := srtL_len9 xs
        generalize hys : srtL xs = ys at hown hqs
        have HXS0 : Hid (RowI w ws g (K + 1 + k + 1) vs ys) := Lib.hid ⟨own_lowI hown (HX4.out.2.1.size), (HX4.out.fresh hbs).2⟩
        obtain ⟨As, cs, rfl⟩ := HXS0.out.shape
        have HXS : Hid (RowI w ws g (K + 1 + k + 1) (.slice As ys.length cs) ys) := HXS0
        clear hown hbs hys HXS0
        go_wp2_with fail
        refine (pick_any g (K + 1 + k + 1) 30 _ (by omega) HXS.out.2.2).mono ?_
        rintro e w6 ⟨r6, hr6, hR6, hg6, -, rfl⟩
        have HX6 := Lib.hid (HXS.out.step hg0 hg6 hR6)
        have h60 := hr6.1
        clear hR6 hg6 hr6
        by_cases h6 : r6 = 0
        · subst h6
          go_wp2_with fail
          refine (l91Id_any g _ _ (by omega) HX6.out.2.2).mono ?_
          rintro e w7 ⟨x7, -, hD7, rfl⟩
          have HX7 := Lib.hid (HX6.out.draw hg0 hD7)
          clear hD7
          go_wp2_with (at_builtin; go_must (refine wpList_app_at Tryz.elI (m := 1) (HX7.out.alloc _).1 (rd_newn (n := w7.heap.size) rfl [.int .i64 x7] 3) rfl (by simp [Value.oneCell']) (by unfold maxLen; omega) (by omega) (by have := HX7.out.2.1.size; simp; omega) rfl rfl rfl rfl ?_); intro v8 w8 hown8 hg8 hat8; go_must (have HX8 := Lib.hid ((HX7.out.alloc _).app hg0 hown8 hg8)); obtain ⟨A8, c8, rfl⟩ := HX8.out.shape; rw [List.length_append, List.length_singleton] at HX8; clear hown8 hg8 hat8)
          go_ret
          exact ⟨_, _, _, _, HX8.out.rd, by rw [List.length_append, List.length_singleton]; omega, HX8.out.2.more (by omega), rfl⟩
        · go_wp2_with fail
          go_ret
          exact ⟨_, _, _, _, HX6.out.rd, by omega, HX6.out.2.more (by omega), rfl⟩

end Go.Proofs.YtnaeglfochnikaaGreat
