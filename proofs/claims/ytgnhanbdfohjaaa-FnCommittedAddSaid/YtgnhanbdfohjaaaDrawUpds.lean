/-
  The walk of l92Updates: a short slice of updates in new memory. Condition: the reader's place is small.
-/
import Derived.Test.YtgnhanbdfohjaaaDrawRefs
namespace Go.Proofs.Ytgnhanbdfohjaaa
set_option linter.unusedVariables false
set_option linter.unusedSimpArgs false
open Go.RowKit

theorem flat_set {α : Type} {f : α → List Value} {m : Nat} (hf : ∀ x, (f x).length = m) {u : Value} {i : Nat} (hi : i < m) (vs : List α) : ∀ (j : Nat) (hj : j < vs.length) (y : α), (f vs[j]).set i u = f y → (vs.flatMap f).set (j * m + i) u = (vs.set j y).flatMap f := by
  induction vs with
  | nil => intro j hj; simp at hj
  | cons x vs ih =>
    intro j hj y hy
    rcases j with _ | j
    · rw [List.flatMap_cons, Nat.zero_mul, Nat.zero_add, List.set_append_left _ _ (by rw [hf]; exact hi), List.set_cons_zero, List.flatMap_cons]
      rw [← hy]; rfl
    · rw [List.flatMap_cons, List.set_cons_succ, List.flatMap_cons, List.set_append_right _ _ (by rw [hf, Nat.add_mul]; omega), hf]
      rw [show (j + 1) * m + i - m = j * m + i from by rw [Nat.add_mul]; omega, ih j (by simpa using hj) y (by simpa using hy)]

theorem Try.elUpd : ElemT Try.prog 46 87 (.agg #[.int .i64 0, .int .i64 0, .int .i64 0]) 3 24 := ⟨Try.underlying46, by kernel_rfl, rfl, by decide⟩
abbrev UpdS (w wr : World) (g k K : Nat) (v : Value) : Prop := RowS cu 87 3 w wr g k K v
abbrev UpdB (w wr : World) (g k K p : Nat) (v : Value) (u : Upd) : Prop := BoxS cu 87 3 w wr g k K p v u

/-- one field of one element of a row is turned -/
theorem UpdS.field {w wr : World} {g k K q c i j : Nat} {u : Value} (hg0 : g < w.heap.size) (h : UpdS w wr g k K (.slice (some ⟨q, 0, none⟩) k c)) (hj : j < k) (hi : i < 3) (hu : ∀ x : Upd, ∃ y, (cu x).set i u = cu y) :
    UpdS w (wr.setCell ⟨q, j * 3 + i, none⟩ u) g k K (.slice (some ⟨q, 0, none⟩) k c) := by
  obtain ⟨vs, h1, h3, h4⟩ := h
  obtain ⟨y, hy⟩ := hu (vs[j]'(by omega))
  have hst := (h3.stored (j * 3 + i) u).1
  rw [flat_set cu_len hi vs j (by omega) y hy] at hst
  exact ⟨vs.set j y, by simpa using h1, hst, h4.setCell (h3.lt q rfl).1 hg0 u⟩

set_option maxRecDepth 100000 in
set_option maxHeartbeats 3200000 in
theorem l92Updates_any (g K : Nat) (A : Option Addr) (n c : Nat) (xs : List Int) (w : World) (lo hi : Nat) (hK : K ≤ 1000000000 - 100) (_ : n ≤ 4) (hgl : g < lo) (hh : hi ≤ w.heap.size) (hx : Ints w lo hi A n xs) (h : Rdr w g K) :
    Calls Try.prog 54 #[.pointer (some ⟨g, 0, none⟩), .slice A n c] w fun e w' => ∃ k v, k ≤ 4 ∧ UpdS w w' g k (K + 80) v ∧ e = .returned v := by
  have hgw := h.lt
  have HX := Lib.hid hx
  have HR := Lib.hid (DrawT.refl h)
  clear h hx
  have HS0 : Hid (UpdS w (w.alloc (.cells #[] 87)) g 0 K (.slice (some ⟨w.heap.size, 0, none⟩) 0 0)) :=
    ⟨[], rfl, own_nil_lit w _ 3, HR.out.alloc _⟩
  clear HR
  go_enter Try.func54, Try.ntmps54
  go_wp2_with fail
  go_loopw [5, 6] (fun v i wr => ∃ k j : Nat, k ≤ 4 ∧ j ≤ k ∧ i = .int .i64 k ∧ UpdS w wr g j (K + 5 * k) v) (fun _ i _ => 4 - (intOf i).toNat)
  case atStart => exact ⟨0, 0, Nat.zero_le _, Nat.zero_le _, rfl, HS0.out⟩
  case round =>
    obtain ⟨k, j, hk, hjk, rfl, hS⟩ := hrel
    have HS := Lib.hid hS
    clear hS HS0
    by_cases hlt : k < 4
    · go_wp2_with fail
      refine (pick_any g (K + 5 * k) 3 _ (by omega) HS.out.rdr).mono ?_
      rintro e w2 ⟨r, -, hR2, hg2, -, rfl⟩
      have HS2 := Lib.hid (HS.out.row hgw ⟨hg2, hR2⟩)
      clear hR2 hg2 HS
      by_cases h0 : r = 0
      · have hd : (r == 0) = true := by simp [h0]
        clear h0
        go_wp2_with fail
        refine (pick_any g (K + 5 * k + 1) 4 _ (by omega) HS2.out.rdr).mono ?_
        rintro e w3 ⟨r3, hr3, hR3, hg3, -, rfl⟩
        have HS3 := Lib.hid (HS2.out.row hgw ⟨hg3, hR3⟩)
        have hr31 := hr3.1
        have hr32 := hr3.2 (by omega)
        clear hR3 hg3 HS2 hr3
        go_wp2_with fail
        refine (pick_any g (K + 5 * k + 1 + 1) 6 _ (by omega) HS3.out.rdr).mono ?_
        rintro e w4 ⟨r4, hr4, hR4, hg4, -, rfl⟩
        have HS4 := Lib.hid (HS3.out.row hgw ⟨hg4, hR4⟩)
        have hr41 := hr4.1
        have hr42 := hr4.2 (by omega)
        clear hR4 hg4 HS3 hr4
        go_upto_region 7 with fail
        have HB := Lib.hid (BoxS.mk_ HS4.out (⟨k, r3 - 1, r4 - 1⟩ : Upd))
        obtain ⟨p, hp⟩ : ∃ p : Nat, w4.heap.size = p := ⟨_, rfl⟩
        rw [hp] at HB ⊢
        clear hp HS4
        go_cut [34] (fun b wx => (∃ x, b = .bool x ∧ (x = true → k < n)) ∧ ∃ y, UpdB w wx g j (K + 5 * k + 4) p u5 y)
        case first =>
          by_cases hkn : k < n
          · go_wp2_with fail
            refine (pick_any g (K + 5 * k + 1 + 1 + 1) 6 _ (by omega) HB.out.2.1.rdr).mono ?_
            rintro e w5 ⟨r5, -, hR5, hg5, -, rfl⟩
            have HB5 := Lib.hid (HB.out.draw hgw ⟨hg5, hR5⟩)
            clear hR5 hg5 HB
            go_wp2_with fail
            go_meet
            exact ⟨⟨_, rfl, fun _ => hkn⟩, _, HB5.out.more (by omega)⟩
          · go_wp2_with fail
            go_meet
            exact ⟨⟨false, by simp, by simp⟩, _, HB.out.more (by omega)⟩
        case rest =>
          clear HB
          obtain ⟨⟨x, rfl, hxk⟩, y, hB⟩ := hcut
          have HB := Lib.hid hB
          have hpb := hB.2.2.2
          clear hB
          go_upto_if 34 with (fail)
          go_cut [7] (fun v wx => v = .pointer (some ⟨p, 0, none⟩) ∧ ∃ y, UpdB w wx g j (K + 5 * k + 4) p u5 y)
          case first =>
            rcases x with _ | _
            · clear hxk
              go_wp2_with fail
              go_meet
              exact ⟨rfl, y, HB.out⟩
            · have hkn := hxk rfl
              clear hxk
              obtain ⟨b1, o1, hl1, rfl, _, hb1, hc1⟩ := (HX.out.draw HB.out.2.1.drw hh hgl).int hkn
              have hf1 := (HB.out.cell (j := 1) rfl)
              have hc11 := hf1.1
              have hf11 := hf1.2
              have hst := HB.out.set (j := 1) (u := .int .i64 xs[k]) (y := ⟨y.ref, xs[k], y.new_⟩) hgw rfl
              have HST := Lib.hid hst
              clear hf1 hst
              go_wp2_with fail
              go_meet
              exact ⟨rfl, _, HST.out⟩
          case rest =>
            clear HB hxk
            obtain ⟨rfl, y, hB⟩ := hcut
            have HB := Lib.hid hB
            have g0 := (hB.cell (j := 0) rfl).1
            have g1 := (hB.cell (j := 1) rfl).1
            have g2 := (hB.cell (j := 2) rfl).1
            have gf2 := (hB.cell (j := 2) rfl).2
            have hwc := hB.2.1.drw.1.size
            clear hB
            by_cases he : y.new_ = y.old
            · have HST := Lib.hid (HB.out.set (j := 2) (u := .int .i64 (7 + (k : Int))) (y := ⟨y.ref, y.old, 7 + k⟩) hgw rfl)
              have he' : (y.new_ == y.old) = true := by rw [beq_iff_eq]; exact he
              clear he
              go_upto_region 11 with fail
              generalize wc.setCell ⟨p, 2, none⟩ (.int .i64 (7 + (k : Int))) = W at *
              have k0 := (HST.out.cell (j := 0) rfl).1
              have k1 := (HST.out.cell (j := 1) rfl).1
              have k2 := (HST.out.cell (j := 2) rfl).1
              obtain ⟨vs, hv1, hv3, hv4⟩ := HST.out.2.1
              have HV := Lib.hid hv3
              have HD := Lib.hid hv4
              have hwsz := hv4.1.size
              clear hv3 hv4
              go_wp2_with (at_builtin; go_must (refine wpList_app Try.elUpd (HV.out.alloc _) (rd_new _ (cu ⟨y.ref, y.old, 7 + k⟩) _) rfl (by simp [Value.oneCell', cu]) (by unfold maxLen; omega) (by omega) (by simp; omega) rfl rfl rfl rfl ?_); intro v' w6 hown6 hg6)
              exact ⟨⟨k + 1, j + 1, by omega, by omega, by go_num, (RowS.app (xs := [⟨y.ref, y.old, 7 + k⟩]) hgw hv1 HV.out HD.out rfl hown6 hg6).more (by omega)⟩, by simp [intOf]; omega⟩
            · have he' : (y.new_ == y.old) = false := by rw [beq_eq_false_iff_ne]; exact he
              clear he
              obtain ⟨vs, hv1, hv3, hv4⟩ := HB.out.2.1
              have HV := Lib.hid hv3
              have HD := Lib.hid hv4
              have hwsz := hv4.1.size
              clear hv3 hv4
              go_wp2_with (at_builtin; go_must (refine wpList_app Try.elUpd (HV.out.alloc _) (rd_new _ (cu y) _) rfl (by simp [Value.oneCell', cu]) (by unfold maxLen; omega) (by omega) (by simp; omega) rfl rfl rfl rfl ?_); intro v' w6 hown6 hg6)
              exact ⟨⟨k + 1, j + 1, by omega, by omega, by go_num, (RowS.app (xs := [y]) hgw hv1 HV.out HD.out rfl hown6 hg6).more (by omega)⟩, by simp [intOf]; omega⟩
      · have hd : (r == 0) = false := by simp [h0]
        clear h0
        go_wp2_with fail
        exact ⟨⟨k + 1, j, by omega, by omega, by go_num, HS2.out.more (by omega)⟩, by simp [intOf]; omega⟩
    · have hk4 : k = 4 := by omega
      subst hk4
      obtain ⟨vs5, hv51, hv53, hv54⟩ := HS.out
      obtain ⟨A5, c5, rfl, -, -, -⟩ := Rd.of_own hv53
      clear hv51 hv53 hv54
      go_upto_if 54 with (fail)
      go_cut [5] (fun v wx => ∃ m : Nat, 1 ≤ m ∧ m ≤ 4 ∧ UpdS w wx g m (K + 22) v)
      case first =>
        by_cases hj0 : j = 0
        · subst hj0
          go_wp2_with fail
          refine (pick_any g (K + 5 * 4) 4 _ (by omega) HS.out.rdr).mono ?_
          rintro e w2 ⟨r, hr, hR2, hg2, -, rfl⟩
          have HS2 := Lib.hid (HS.out.row hgw ⟨hg2, hR2⟩)
          obtain ⟨q, rfl⟩ := Int.eq_ofNat_of_zero_le hr.1
          have hq := hr.2 (by omega)
          have HX2 := Lib.hid (HX.out.draw HS2.out.drw hh hgl)
          obtain ⟨vs, hv1, hv3, hv4⟩ := HS2.out
          have HV := Lib.hid hv3
          have HD := Lib.hid hv4
          have hwsz := hv4.1.size
          clear hR2 hg2 HS hr hv3 hv4
          by_cases hqn : q < n
          · obtain ⟨b1, o1, hl1, rfl, _, hb1, hc1⟩ := HX2.out.int hqn
            go_wp2_with (at_builtin; go_must (refine wpList_app Try.elUpd (HV.out.alloc _) (rd_new _ (cu ⟨q, xs[q], 9⟩) _) rfl (by simp [Value.oneCell', cu]) (by unfold maxLen; omega) (by omega) (by simp; omega) rfl rfl rfl rfl ?_); intro v' w6 hown6 hg6)
            go_meet
            exact ⟨1, by omega, by omega, (RowS.app (xs := [⟨q, xs[q], 9⟩]) hgw hv1 HV.out HD.out rfl hown6 hg6).more (by omega)⟩
          · go_wp2_with (at_builtin; go_must (refine wpList_app Try.elUpd (HV.out.alloc _) (rd_new _ (cu ⟨q, -1, 9⟩) _) rfl (by simp [Value.oneCell', cu]) (by unfold maxLen; omega) (by omega) (by simp; omega) rfl rfl rfl rfl ?_); intro v' w6 hown6 hg6)
            go_meet
            exact ⟨1, by omega, by omega, (RowS.app (xs := [⟨q, -1, 9⟩]) hgw hv1 HV.out HD.out rfl hown6 hg6).more (by omega)⟩
        · have hj1 : 1 ≤ j := by omega
          have hd : ((j : Int) == 0) = false := by rw [beq_eq_false_iff_ne]; omega
          clear hj0
          go_wp2_with fail
          go_meet
          exact ⟨j, hj1, hjk, HS.out.more (by omega)⟩
      case rest =>
        clear HS
        obtain ⟨m, hm1, hm4, hS⟩ := hcut
        have HS := Lib.hid hS
        clear hS
        obtain ⟨vs, hv1, hv3, hv4⟩ := HS.out
        obtain ⟨gq, cq, rfl, hgq, -, hcq⟩ := own_slice hv3 (by omega)
        clear hv3 hv4 hv1
        go_wp2_with fail
        refine (pick_any g (K + 22) 30 _ (by omega) HS.out.rdr).mono ?_
        rintro e w2 ⟨r, -, hR2, hg2, -, rfl⟩
        have HS2 := Lib.hid (HS.out.row hgw ⟨hg2, hR2⟩)
        clear hR2 hg2 HS
        by_cases h0 : r = 0
        · have hd : (r == 0) = true := by simp [h0]
          clear h0
          go_wp2_with fail
          refine (pick_any g (K + 22 + 1) m _ (by omega) HS2.out.rdr).mono ?_
          rintro e w3 ⟨r3, hr3, hR3, hg3, -, rfl⟩
          have HS3 := Lib.hid (HS2.out.row hgw ⟨hg3, hR3⟩)
          obtain ⟨q, rfl⟩ := Int.eq_ofNat_of_zero_le hr3.1
          have hq := hr3.2 (by omega)
          clear hR3 hg3 HS2 hr3
          go_wp2_with fail
          refine (pick_any g (K + 22 + 1 + 1) 6 _ (by omega) HS3.out.rdr).mono ?_
          rintro e w4 ⟨r4, hr4, hR4, hg4, -, rfl⟩
          have HS4 := Lib.hid (HS3.out.row hgw ⟨hg4, hR4⟩)
          have hr41 := hr4.1
          have hr42 := hr4.2 (by omega)
          clear hR4 hg4 HS3 hr4
          have hqm : q < m := by omega
          obtain ⟨vs, hv1, hv3, hv4⟩ := HS4.out
          obtain ⟨u0, hc0, hf0⟩ := own_cells hv3 hqm 0 (by omega)
          rw [Nat.add_zero] at hc0 hf0
          have HST : Hid (UpdS w (w4.setCell ⟨gq, q * 3, none⟩ (.int .i64 (r4 - 1))) g m _ (.slice (some ⟨gq, 0, none⟩) m cq)) := UpdS.field (i := 0) hgw HS4.out hqm (by omega) (fun x => ⟨⟨r4 - 1, x.old, x.new_⟩, rfl⟩)
          clear hv3 hv4 hv1
          go_wp2_with fail
          go_ret
          exact ⟨m, _, hm4, HST.out.more (by omega), rfl⟩
        · have hd0 : (r == 0) = false := by simp [h0]
          by_cases h1 : r = 1
          · have hd : (r == 1) = true := by simp [h1]
            clear h1 h0
            go_wp2_with fail
            refine (pick_any g (K + 22 + 1) m _ (by omega) HS2.out.rdr).mono ?_
            rintro e w3 ⟨r3, hr3, hR3, hg3, -, rfl⟩
            have HS3 := Lib.hid (HS2.out.row hgw ⟨hg3, hR3⟩)
            obtain ⟨q, rfl⟩ := Int.eq_ofNat_of_zero_le hr3.1
            have hq := hr3.2 (by omega)
            clear hR3 hg3 HS2 hr3
            go_wp2_with fail
            refine (l92Value_any g (K + 22 + 1 + 1) _ (by omega) HS3.out.rdr).mono ?_
            rintro e w4 ⟨x4, hD4, rfl⟩
            have HS4 := Lib.hid (HS3.out.row hgw hD4)
            clear hD4 HS3
            have hqm : q < m := by omega
            obtain ⟨vs, hv1, hv3, hv4⟩ := HS4.out
            obtain ⟨u0, hc0, hf0⟩ := own_cells hv3 hqm 2 (by omega)
            have HST := Lib.hid (UpdS.field (i := 2) (u := .int .i64 x4) hgw HS4.out hqm (by omega) (fun x => ⟨⟨x.ref, x.old, x4⟩, rfl⟩))
            clear hv3 hv4 hv1
            go_wp2_with fail
            go_ret
            exact ⟨m, _, hm4, HST.out.more (by omega), rfl⟩
          · have hd1 : (r == 1) = false := by simp [h1]
            by_cases h2 : r = 2
            · have hd : (r == 2) = true := by simp [h2]
              clear h2 h1 h0
              have hcm : cq ≤ 9223372036854775807 := by
                obtain ⟨vs, hv1, hv3, hv4⟩ := HS2.out
                obtain ⟨_, _, he, _, hm, _⟩ := Rd.of_own hv3
                injection he with _ _ he
                unfold maxLen at hm; omega
              go_wp2_with fail
              go_ret
              exact ⟨0, _, Nat.zero_le _, (RowS.cut cu_len HS2.out (Nat.zero_le _)).more (by omega), rfl⟩
            · have hd2 : (r == 2) = false := by simp [h2]
              clear h2 h1 h0
              go_wp2_with fail
              go_ret
              exact ⟨m, _, hm4, HS2.out.more (by omega), rfl⟩

end Go.Proofs.Ytgnhanbdfohjaaa
