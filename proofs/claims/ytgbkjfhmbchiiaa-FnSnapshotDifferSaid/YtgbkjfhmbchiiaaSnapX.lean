/-
  The walks of impl.CoordinatorRefs of a valid coordinator, of the laws' sameInts of two rows of one length, and of the laws' ascending. Condition: lengths fit an int64.
-/
import Derived.Test.YtgbkjfhmbchiiaaM16
import Derived.Test.YtgbkjfhmbchiiaaM17
import Derived.Test.YtgbkjfhmbchiiaaDifLaw
namespace Go.Proofs.Ytgbkjfhmbchiiaa
set_option linter.unusedVariables false
set_option linter.unusedSimpArgs false
open Go.RowKit

set_option maxHeartbeats 400000 in
theorem sameIntsG_any (A A' : Option Addr) (n c c' : Nat) (xs ys : List Int) (w : World) (lo hi lo' hi' : Nat) (hn : n ≤ 9223372036854775807) (h : Ints w lo hi A n xs) (h' : Ints w lo' hi' A' n ys) :
    Calls Try.prog 19 #[.slice A n c, .slice A' n c'] w fun e w' => e = .returned (.bool (decide (xs = ys))) ∧ ∃ m, w' = w.drewN m := by
  have HI := Lib.hid h
  have HJ := Lib.hid h'
  have hnn : (!((n : Int) == n)) = false := by simp
  clear h h'
  go_enter Try.func19, Try.ntmps19
  go_wp2
  go_loopw [5] (fun i wr => ∃ k : Nat, k ≤ n ∧ i = .int .i64 k ∧ (∃ m, wr = w.drewN m) ∧ Hid (xs.take k = ys.take k)) (fun i _ => n - (intOf i).toNat)
  case atStart => exact ⟨0, Nat.zero_le _, rfl, ⟨0, rfl⟩, Lib.hid (by simp)⟩
  case round =>
    obtain ⟨k, hk, rfl, ⟨m, rfl⟩, HT⟩ := hrel
    by_cases hlt : k < n
    · obtain ⟨b, o, hl, rfl, _, _, hc⟩ := HI.out.int hlt
      obtain ⟨b', o', hl', rfl, _, _, hc'⟩ := HJ.out.int hlt
      obtain ⟨x, hx⟩ : ∃ x, x = xs[k] := ⟨_, rfl⟩
      obtain ⟨y, hy⟩ : ∃ y, y = ys[k] := ⟨_, rfl⟩
      rw [← hx] at hc
      rw [← hy] at hc'
      by_cases he : x = y
      · subst he
        have he : xs[k] = ys[k] := by rw [← hx, ← hy]
        have hd : (!(x == x)) = false := by simp
        have HT2 : Hid (xs.take (k + 1) = ys.take (k + 1)) := Lib.hid (by rw [List.take_succ_eq_append_getElem hl, List.take_succ_eq_append_getElem hl', HT.out, he])
        clear he hx hy
        go_wp2
        go_quiet (fail)
        go_wp2
        exact ⟨⟨k + 1, by omega, by go_num, ⟨m + nq, rfl⟩, HT2⟩, by simp [intOf]; omega⟩
      · have hd : (!(x == y)) = true := by simp [he]
        have hd2 : (x == y) = false := by simp [he]
        have hr : decide (xs = ys) = false := decide_eq_false (fun e => he (by rw [hx, hy]; simp only [e]))
        clear hx hy
        go_wp2
        go_quiet (fail)
        go_wp2
        go_ret
        exact ⟨ret_bool hr.symm, m + nq, by first | rfl | simp | (go_simp; done)⟩
    · have hkn : k = n := by omega
      subst hkn
      have hr : decide (xs = ys) = true := decide_eq_true (by have := HT.out; rwa [List.take_of_length_le (Nat.le_of_eq HI.out.1), List.take_of_length_le (Nat.le_of_eq HJ.out.1)] at this)
      go_wp2
      go_ret
      exact ⟨ret_bool hr.symm, m, rfl⟩

set_option maxHeartbeats 400000 in
theorem ascending_any (A : Option Addr) (n c : Nat) (xs : List Int) (w : World) (lo hi : Nat) (hn : n ≤ 1048576) (h : Ints w lo hi A n xs) (hp : xs.Pairwise (· < ·)) :
    Calls Try.prog 21 #[.slice A n c] w fun e w' => e = .returned (.bool true) ∧ ∃ m, w' = w.drewN m := by
  have HI := Lib.hid h
  have HP := Lib.hid hp
  clear h hp
  go_enter Try.func21, Try.ntmps21
  go_wp2
  go_loopw [3] (fun i wr => ∃ k : Nat, 1 ≤ k ∧ i = .int .i64 k ∧ ∃ m, wr = w.drewN m) (fun i _ => n + 1 - (intOf i).toNat)
  case atStart => exact ⟨1, Nat.le_refl _, rfl, 0, rfl⟩
  case round =>
    obtain ⟨k, hk, rfl, m, rfl⟩ := hrel
    by_cases hlt : k < n
    · obtain ⟨b, o, hl, rfl, _, _, hc⟩ := HI.out.int hlt
      obtain ⟨b', o', hl', he, _, _, hc'⟩ := HI.out.int (k := k - 1) (by omega)
      injection he with he
      injection he with he1 he2
      subst he1 he2
      have hxy : xs[k - 1] < xs[k] := (List.pairwise_iff_getElem.1 HP.out) (k - 1) k hl' hl (by omega)
      obtain ⟨x, hx⟩ : ∃ x, x = xs[k - 1] := ⟨_, rfl⟩
      obtain ⟨y, hy⟩ : ∃ y, y = xs[k] := ⟨_, rfl⟩
      rw [← hx] at hc' hxy
      rw [← hy] at hc hxy
      have hd : decide (y ≤ x) = false := by simp; omega
      have hd2 : ¬ (y ≤ x) := by omega
      have hx1 : (0 : Int) ≤ (k : Int) - 1 := by omega
      have hx2 : (k : Int) - 1 < (n : Int) := by omega
      have hx3 : ((k : Int) - 1).toNat = k - 1 := by omega
      have hx4 : (1 : Int) ≤ (k : Int) := by omega
      have hx5 : (k : Int) < (n : Int) + 1 := by omega
      have hx6 : IntKind.i64.wrap ((k : Int) - 1) = (k : Int) - 1 := by rw [IntKind.wrap_i64]; omega
      clear hx hy
      go_wp2
      go_quiet (fail)
      go_wp2
      exact ⟨⟨k + 1, by omega, by go_num, m + nq, rfl⟩, by simp [intOf]; omega⟩
    · go_wp2
      go_ret
      exact ⟨rfl, m, rfl⟩

set_option maxRecDepth 100000 in
set_option maxHeartbeats 1600000 in
theorem implCoordRefs_any (txns : List TxnD) (order : List Int) (s m : Nat) (A0 : Option Addr) (n0 c0 : Nat) (A1 : Option Addr) (n1 c1 : Nat) (w : World) (lo hi : Nat) (hh : hi ≤ w.heap.size) (hr0 : D.rd w lo hi (dTxns txns) (.slice A0 n0 c0)) (hr1 : D.rd w lo hi (intsD order) (.slice A1 n1 c1)) (hn0 : n0 ≤ 1048576) (hn1 : n1 ≤ 1048576)
    (hwf : ∀ t ∈ txns, ∀ v ∈ t.votes, (Lit.int .i64 v).wf = true) (hv : coordB ⟨txns, order⟩ = true) (hs : s < 3) (hm : m ≤ n1) :
    Calls Try.prog 20 #[.agg #[.slice A0 n0 c0, .slice A1 n1 c1], .int .i64 (s : Int), .int .i64 (m : Int)] w fun e w' => ∃ B d, e = .returned (.slice B 4 d) ∧ Own w' w.heap.size (intsD (refsTo txns s order m)) (.slice B 4 d) ∧ Below w.heap.size w w' := by
  have HB0 : Hid (Below w.heap.size w (w.alloc (.cells #[.slice A0 n0 c0, .slice A1 n1 c1] 26))) := (Below.refl _ _).alloc (Nat.le_refl _) _
  have HX0 : Hid ((w.alloc (.cells #[.slice A0 n0 c0, .slice A1 n1 c1] 26)).heap[w.heap.size]? = some (.cells #[.slice A0 n0 c0, .slice A1 n1 c1] 26 (0, 0))) := Lib.hid (heap_alloc_new w _)
  have HT := Lib.hid hr0
  have HO := Lib.hid hr1
  have HL := Lib.hid hr1.ints.1
  have HWF := Lib.hid hwf
  have HV := Lib.hid hv
  clear hr0 hr1 hwf hv
  go_enter Try.func20, Try.ntmps20
  go_wp2_with fail
  refine (implCoord_any txns order A0 n0 c0 A1 n1 c1 _ lo hi (by simp; omega) (HT.out.alloc hh _) (HO.out.alloc hh _) hn0 hn1 HWF.out).mono ?_
  rintro e w1 ⟨rfl, hb1⟩
  have HB1 := Lib.hid (bel_tr HB0.out (Nat.le_refl _) hb1)
  have HX1 := Lib.hid ((hb1.block _ (hlt_of HX0.out)).trans HX0.out)
  have hz1 : w.heap.size < w1.heap.size := hlt_of HX1.out
  have d0 := cell_of_row w1 w.heap.size 0 _ _ _ HX1.out
  have d1 := cell_of_row w1 w.heap.size 1 _ _ _ HX1.out
  have hi1 : inR (s : Int) 0 2 = true := (inR_iff _ _ _).2 ⟨by omega, by omega⟩
  have hi2 : inR (m : Int) 0 n1 = true := (inR_iff _ _ _).2 ⟨by omega, by omega⟩
  have hh1 : hi ≤ w1.heap.size := Nat.le_trans hh HB1.out.size
  clear hb1
  rw [HV.out]
  go_wp2_with (go_at_call 39; refine (inRange_any _ _ _ _).mono ?_; rintro e w' ⟨rfl, rfl⟩)
  refine (refsAfter_any txns order s m A0 n0 c0 A1 n1 c1 w1 lo hi hh1 (HT.out.below HB1.out hh) (HO.out.below HB1.out hh) HV.out hm).mono ?_
  rintro e w2 ⟨rfl, hb2⟩
  have HB2 := Lib.hid (bel_tr HB1.out (Nat.le_refl _) hb2)
  obtain ⟨r0, r1, r2, r3, he⟩ := lst4 (refsTo_len (c := ⟨txns, order⟩) HV.out (s : Int) (k := m) (by show m ≤ order.length; rw [HL.out]; exact hm))
  have HE := Lib.hid he
  dsimp only at he
  rw [he, r4_at]
  clear he hb2
  have hz2 : w.heap.size ≤ w2.heap.size := HB2.out.size
  have HTA : Hid (Tab (w2.alloc (.cells #[.int .i64 r0, .int .i64 r1, .int .i64 r2, .int .i64 r3] 65)) w2.heap.size (refsTo txns s order m)) := by
    show Tab _ _ _
    rw [HE.out]
    exact heap_alloc_new w2 _
  go_wp2_with fail
  go_ret
  exact ⟨_, _, rfl, own_ints (HTA.out.own hz2 (by rw [HE.out]; rfl)), HB2.out.alloc hz2 _⟩

theorem implCoordRefsI_any (txns : List TxnD) (order : List Int) (s : Nat) (a : Int) (A0 : Option Addr) (n0 c0 : Nat) (A1 : Option Addr) (n1 c1 : Nat) (w : World) (lo hi : Nat) (hh : hi ≤ w.heap.size) (hr0 : D.rd w lo hi (dTxns txns) (.slice A0 n0 c0)) (hr1 : D.rd w lo hi (intsD order) (.slice A1 n1 c1)) (hn0 : n0 ≤ 1048576) (hn1 : n1 ≤ 1048576)
    (hwf : ∀ t ∈ txns, ∀ v ∈ t.votes, (Lit.int .i64 v).wf = true) (hv : coordB ⟨txns, order⟩ = true) (hs : s < 3) (h0 : 0 ≤ a) (hm : a ≤ n1) :
    Calls Try.prog 20 #[.agg #[.slice A0 n0 c0, .slice A1 n1 c1], .int .i64 (s : Int), .int .i64 a] w fun e w' => ∃ B d, e = .returned (.slice B 4 d) ∧ Own w' w.heap.size (intsD (refsTo txns s order a.toNat)) (.slice B 4 d) ∧ Below w.heap.size w w' := by
  obtain ⟨m, rfl⟩ := Int.eq_ofNat_of_zero_le h0
  exact implCoordRefs_any txns order s m A0 n0 c0 A1 n1 c1 w lo hi hh hr0 hr1 hn0 hn1 hwf hv hs (by omega)

end Go.Proofs.Ytgbkjfhmbchiiaa
