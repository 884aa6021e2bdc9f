/-
  The walks of DrawTermDecide and DrawTermAgree: they return a slice of at most six ints in new memory. No condition.
-/
import Derived.Test.YtohlmfhfcgfedaaPick
import Derived.Test.YtohlmfhfcgfedaaApp
import Derived.Test.YtohlmfhfcgfedaaInt
import Derived.Deep.DeepCutAuto
namespace Go.Proofs.Ytohlmfhfcgfedaa
open Go.RowKit

theorem Try.elInt : ElemT Try.prog 22 3 (.int .i64 0) 1 8 := ⟨Try.underlying22, by kernel_rfl, rfl, by decide⟩

/-- a row of k ints of the call's own, behind a reader in block C -/
def DrawS (w wr : World) (C k K : Nat) (v : Value) : Prop :=
  ∃ vs : List Int, vs.length = k ∧ wr.ownsRow (C + 1) 3 1 v k (vs.flatMap ci) ∧ Below C w wr ∧ Rdr wr C K

theorem DrawS.row {w wr w' : World} {C k K K' : Nat} {v : Value} (h : DrawS w wr C k K v) (hg : wr.grownBy w' (some C)) (hR : Rdr w' C K') : DrawS w w' C k K' v := by
  obtain ⟨vs, h1, h2, h3, h4⟩ := h
  exact ⟨vs, h1, own_kept_row h2 hg (Nat.lt_succ_self _), below_row h3 (Nat.le_of_lt h4.lt) hg (Nat.le_refl _), hR⟩
theorem DrawS.app {w wr w' : World} {C k K m : Nat} {v v' : Value} {vs rs : List Int} {o : Obj} (h1 : vs.length = k) (h2 : wr.ownsRow (C + 1) 3 1 v k (vs.flatMap ci)) (h3 : Below C w wr) (h4 : Rdr wr C K) (hm : rs.length = m)
    (hown : w'.ownsRow (C + 1) 3 1 v' (k + m) (vs.flatMap ci ++ rs.flatMap ci)) (hg : (wr.alloc o).grownBy w' v.ownBlock) : DrawS w w' C (k + m) K v' := by
  have hl := h4.lt
  rw [← List.flatMap_append] at hown
  refine ⟨vs ++ rs, by simp [h1, hm], hown, below_app (h3.alloc (by omega) o) (by omega) (by simp; omega) (h2.alloc o) hg, (h4.alloc o).grown hg (fun g hk => ?_)⟩
  have := (h2.lt g hk).1
  omega
theorem ci_set (vs : List Int) (j : Nat) (x : Int) : (vs.flatMap ci).set j (.int .i64 x) = (vs.set j x).flatMap ci := by
  rw [flat_ci, flat_ci, List.map_set]
theorem DrawS.cell {w wr : World} {C k K j : Nat} {v : Value} (h : DrawS w wr C k K v) (hj : j < k) : ∃ g c x, v = .slice (some ⟨g, 0, none⟩) k c ∧ C < g ∧ k ≤ c ∧ wr.cell? ⟨g, j, none⟩ = some (.int .i64 x) ∧ wr.frozen? ⟨g, j, none⟩ = false := by
  obtain ⟨vs, h1, h2, h3, h4⟩ := h
  obtain ⟨hl, hf⟩ := id h2
  rcases hf with ⟨rfl, rfl⟩ | ⟨g, cap, cur, rfl, hb, hh, hn, hm, hs, ht⟩
  · omega
  · refine ⟨g, cap, vs[j]'(by omega), rfl, hb, hn, ?_, h2.frozenAt j⟩
    rw [h2.cellAt j (by omega), flat_ci, List.getElem?_map, List.getElem?_eq_getElem (by omega)]; rfl
theorem DrawS.at_ {w wr : World} {C k K j g c : Nat} (h : DrawS w wr C k K (.slice (some ⟨g, 0, none⟩) k c)) (hj : j < k) : ∃ x, wr.cell? ⟨g, j, none⟩ = some (.int .i64 x) ∧ wr.frozen? ⟨g, j, none⟩ = false := by
  obtain ⟨g', c', x, he, _, _, h1, h2⟩ := h.cell hj
  simp only [Value.slice.injEq, Option.some.injEq, Addr.mk.injEq, and_true, true_and] at he
  obtain ⟨rfl, rfl⟩ := he
  exact ⟨x, h1, h2⟩
theorem DrawS.more {w wr : World} {C k K K' : Nat} {v : Value} (h : DrawS w wr C k K v) (hK : K ≤ K') : DrawS w wr C k K' v := by
  obtain ⟨vs, h1, h2, h3, h4⟩ := h
  exact ⟨vs, h1, h2, h3, h4.more hK⟩
theorem DrawS.rdr {w wr : World} {C k K : Nat} {v : Value} (h : DrawS w wr C k K v) : Rdr wr C K := h.choose_spec.2.2.2
theorem DrawS.set {w wr : World} {C k K j g c : Nat} (h : DrawS w wr C k K (.slice (some ⟨g, 0, none⟩) k c)) (hg : C < g) (x : Int) :
    DrawS w (wr.setCell ⟨g, j, none⟩ (.int .i64 x)) C k K (.slice (some ⟨g, 0, none⟩) k c) := by
  obtain ⟨vs, h1, h2, h3, h4⟩ := h
  have hst := h2.stored j (.int .i64 x)
  rw [ci_set] at hst
  exact ⟨vs.set j x, by simpa using h1, hst.1, h3.setCell (Nat.le_of_lt hg) _, h4.grown hst.2 (fun q hq => by injection hq with hq; omega)⟩
/-- what is left of it behind the draw -/
def Drawn (w w' : World) (v : Value) : Prop := ∃ A n c xs, v = .slice A n c ∧ n ≤ 6 ∧ n ≤ c ∧ c ≤ maxLen ∧ Ints w' w.heap.size w'.heap.size A n xs ∧ Below w.heap.size w w'
theorem DrawS.drawn {w wr : World} {k K : Nat} {v : Value} (h : DrawS w wr w.heap.size k K v) (hk : k ≤ 6) : Drawn w wr v := by
  obtain ⟨vs, h1, h2, h3, h4⟩ := h
  obtain ⟨A, c, rfl, hc, hm, hr⟩ := Rd.of_own h2
  exact ⟨A, k, c, vs, rfl, hk, hc, hm, ⟨h1, hr.more (Nat.le_succ _) (Nat.le_refl _)⟩, h3⟩

set_option maxHeartbeats 1000000 in
theorem drawTerm_any (A : Option Addr) (n c : Nat) (zs : List Int) (w : World) (h : IsRow .u8 w A n c zs) :
    Calls Try.prog 30 #[.slice A n c] w fun e w' => ∃ v, e = .returned v ∧ Drawn w w' v := by
  have HI := Lib.hid h
  clear h
  go_enter Try.func30, Try.ntmps30
  go_wp2_with fail
  refine (l6Open_any _ _ _ zs _ HI.out).mono ?_
  rintro e w1 ⟨hR1, hb1, hs1, rfl⟩
  have HS : Hid (DrawS w (w1.alloc (.cells #[] 3)) w.heap.size 0 0 (.slice (some ⟨w1.heap.size, 0, none⟩) 0 0)) :=
    ⟨[], rfl, by rw [← hs1]; exact own_nil_lit w1 _ 1, hb1.alloc hb1.size _, hR1.alloc _⟩
  have hsz := hR1.lt
  clear hR1 hb1 hs1
  go_wp2_with fail
  refine (pick_any w.heap.size 0 3 _ (by omega) HS.out.rdr).mono ?_
  rintro e w2 ⟨r, hr, hR2, hg2, hs2, rfl⟩
  have HS2 := Lib.hid (HS.out.row hg2 hR2)
  obtain ⟨hr0, hr1⟩ := hr
  have hr2 := hr1 (by omega)
  clear hr1 HS hg2 hs2 hR2
  obtain ⟨q, rfl⟩ := Int.eq_ofNat_of_zero_le hr0
  have hq : q ≤ 2 := by omega
  clear hr2 hr0 hsz
  go_wp2_with fail
  go_loopw [4, 6] (fun v i wr => ∃ k : Nat, k ≤ q + 1 ∧ i = .int .i64 k ∧ DrawS w wr w.heap.size k (k + 1) v) (fun _ i _ => (q + 1) - (intOf i).toNat)
  case atStart => exact ⟨0, by omega, rfl, HS2.out⟩
  case round =>
    obtain ⟨k, hk, rfl, hS⟩ := hrel
    have HS := Lib.hid hS
    clear hS
    by_cases hlt : k < q + 1
    · go_wp2_with fail
      refine (pick_any w.heap.size (k + 1) 4 _ (by omega) HS.out.rdr).mono ?_
      rintro e w3 ⟨r, -, hR3, hg3, -, rfl⟩
      have HS3 := Lib.hid (HS.out.row hg3 hR3)
      clear hR3 hg3 HS
      obtain ⟨vs, hvl, hown, hbw, hR⟩ := HS3.out
      have hsz := hR.lt
      go_wp2_with (at_builtin; go_must (refine wpList_app Try.elInt (hown.alloc _) (rd_new w3 [.int .i64 r] _) rfl (by simp [Value.oneCell']) (by unfold maxLen; omega) (by omega) (by simp; omega) rfl rfl rfl rfl ?_); intro v' w4 hown4 hg4)
      go_roundw
      case rel => exact ⟨k + 1, by omega, by go_num, (DrawS.app (rs := [r]) hvl hown hbw hR rfl hown4 hg4)⟩
      case measure => simp [intOf]; omega
    · have hkq : k = q + 1 := by omega
      subst hkq
      go_upto_if 26 with (go_at_call 50; refine (pick_any w.heap.size (q + 1 + 1) 2 _ (by omega) HS.out.rdr).mono ?_; rintro e w3 ⟨r, -, hR3, hg3, -, rfl⟩; have HS3 := Lib.hid (HS.out.row hg3 hR3))
      obtain ⟨g, c', x0, rfl, hgC, hkc, -, -⟩ := HS3.out.cell (j := 0) (by omega)
      clear hR3 hg3 HS HS2
      go_cut [4] (fun v wx => v = .slice (some ⟨g, 0, none⟩) (q + 1) c' ∧ DrawS w wx w.heap.size (q + 1) (q + 20) v)
      case first =>
        by_cases hr0 : r = 0
        · have hd : (r == 0) = true := by simp [hr0]
          clear hr0
          simp only [hd]
          go_wp2_with fail
          go_loopw [7] (fun i wr => ∃ k : Nat, k ≤ q + 1 ∧ i = .int .i64 k ∧ DrawS w wr w.heap.size (q + 1) (q + 1 + 1 + 1 + k) (.slice (some ⟨g, 0, none⟩) (q + 1) c')) (fun i _ => (q + 1) - (intOf i).toNat)
          case atStart => exact ⟨0, by omega, rfl, HS3.out⟩
          case round =>
            obtain ⟨k, hk, rfl, hS⟩ := hrel
            have HS := Lib.hid hS
            clear hS HS3
            by_cases hlt : k < q + 1
            · go_wp2_with fail
              refine (pick_any w.heap.size (q + 1 + 1 + 1 + k) 2 _ (by omega) HS.out.rdr).mono ?_
              rintro e w4 ⟨r2, hr2, hR4, hg4, -, rfl⟩
              have HS4 := Lib.hid (HS.out.row hg4 hR4)
              have hr3 := hr2.1
              have hr4 := hr2.2 (by omega)
              clear hR4 hg4 HS hr2
              obtain ⟨x1, hc1, hf1⟩ := HS4.out.at_ (j := k) hlt
              have HS5 := Lib.hid (HS4.out.set (j := k) hgC (1 + r2))
              go_wp2
              go_roundw
              case rel => exact ⟨k + 1, by omega, by go_num, HS5.out⟩
              case measure => simp [intOf]; omega
            · go_wp2_with fail
              go_meet
              exact ⟨rfl, HS.out.more (by omega)⟩
        · have hd : (r == 0) = false := by simp [hr0]
          clear hr0
          go_wp2_with fail
          go_meet
          exact ⟨rfl, HS3.out.more (by omega)⟩
      case rest =>
        clear HS3
        obtain ⟨rfl, hS⟩ := hcut
        have HS := Lib.hid hS
        clear hS
        go_wp2_with fail
        refine (pick_any w.heap.size (q + 20) 20 _ (by omega) HS.out.rdr).mono ?_
        rintro e w3 ⟨r, hr, hR3, hg3, -, rfl⟩
        have HS3 := Lib.hid (HS.out.row hg3 hR3)
        clear HS hR3 hg3 hr
        by_cases h0 : r = 0
        · have hd : (r == 0) = true := by simp [h0]
          clear h0
          go_wp2_with fail
          refine (pick_any w.heap.size (q + 20 + 1) (1 + q) _ (by omega) HS3.out.rdr).mono ?_
          rintro e w4 ⟨r2, hr2, hR4, hg4, -, rfl⟩
          have HS4 := Lib.hid (HS3.out.row hg4 hR4)
          obtain ⟨j, rfl⟩ := Int.eq_ofNat_of_zero_le hr2.1
          have hj := hr2.2 (by omega)
          clear HS3 hR4 hg4 hr2
          go_wp2_with fail
          refine (pick_any w.heap.size (q + 20 + 1 + 1) 2 _ (by omega) HS4.out.rdr).mono ?_
          rintro e w5 ⟨r3, hr3, hR5, hg5, -, rfl⟩
          have HS5 := Lib.hid (HS4.out.row hg5 hR5)
          have hr4 := hr3.1
          have hr5 := hr3.2 (by omega)
          clear HS4 hR5 hg5 hr3
          have hj2 : j < q + 1 := by omega
          obtain ⟨x1, hc1, hf1⟩ := HS5.out.at_ (j := j) hj2
          have HS6 := Lib.hid (HS5.out.set (j := j) hgC (r3 * 5 - 1))
          go_wp2
          go_ret
          exact ⟨_, rfl, HS6.out.drawn (by omega)⟩
        · have hd0 : (r == 0) = false := by simp [h0]
          by_cases h1 : r = 1
          · have hd : (r == 1) = true := by simp [h1]
            clear h1 h0
            obtain ⟨vs, hvl, hown, hbw, hR⟩ := HS3.out
            have hsz := hR.lt
            go_wp2_with (at_builtin; go_must (refine wpList_app Try.elInt (hown.alloc _) (rd_new w3 [.int .i64 1, .int .i64 1, .int .i64 1] _) rfl (by simp [Value.oneCell']) (by unfold maxLen; omega) (by omega) (by simp; omega) rfl rfl rfl rfl ?_); intro v' w4 hown4 hg4)
            go_ret
            exact ⟨_, rfl, (DrawS.app (rs := [1, 1, 1]) (m := 3) hvl hown hbw hR rfl hown4 hg4).drawn (by omega)⟩
          · have hd1 : (r == 1) = false := by simp [h1]
            by_cases h2 : r = 2
            · have hd : (r == 2) = true := by simp [h2]
              clear h2 h1 h0
              have hcm : c' ≤ maxLen := by
                obtain ⟨vs, hvl, hown, hbw, hR⟩ := HS3.out
                obtain ⟨_, _, he, _, hm, _⟩ := Rd.of_own hown
                injection he with _ _ he
                omega
              have hc63 : c' ≤ 9223372036854775807 := by unfold maxLen at hcm; exact hcm
              have hcm' := Lib.hid hcm
              clear hcm
              go_wp2
              go_ret
              exact ⟨_, rfl, _, 0, _, [], rfl, by omega, by omega, hcm'.out, Fl.nil _ _ _ _ _, HS3.out.choose_spec.2.2.1⟩
            · have hd2 : (r == 2) = false := by simp [h2]
              clear h2 h1 h0
              go_wp2
              go_ret
              exact ⟨_, rfl, HS3.out.drawn (by omega)⟩

set_option maxHeartbeats 400000 in
theorem drawAgree_any (A : Option Addr) (n c : Nat) (zs : List Int) (w : World) (h : IsRow .u8 w A n c zs) :
    Calls Try.prog 27 #[.slice A n c] w fun e w' => ∃ v, e = .returned v ∧ Drawn w w' v := by
  have HI := Lib.hid h
  clear h
  go_enter Try.func27, Try.ntmps27
  go_wp2_with fail
  refine (drawTerm_any _ _ _ zs _ HI.out).mono ?_
  rintro e w1 ⟨v, rfl, hd⟩
  have HD := Lib.hid hd
  clear hd
  go_wp2_with fail
  go_ret
  exact ⟨_, rfl, HD.out⟩

end Go.Proofs.Ytohlmfhfcgfedaa
