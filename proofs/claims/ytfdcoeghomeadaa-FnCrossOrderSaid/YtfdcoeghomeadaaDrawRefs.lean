/-
  The walks of l92Value, l92Refs, l92Updates, DrawRefsApply and DrawRefsDiffer: short slices in new memory. Condition: the reader's place is small.
-/
import Derived.Test.YtfdcoeghomeadaaDrawKit
import Derived.Test.YtfdcoeghomeadaaRefsB
import Derived.Deep.CutBlock
namespace Go.Proofs.Ytfdcoeghomeadaa
open Go.RowKit

set_option maxHeartbeats 800000 in
theorem l92Value_any (g K : Nat) (w : World) (hK : K ≤ 1000000000 - 10) (h : Rdr w g K) :
    Calls Try.prog 66 #[.pointer (some ⟨g, 0, none⟩)] w fun e w' => ∃ x : Int, DrawT w w' g (K + 3) ∧ e = .returned (.int .i64 x) := by
  have HR := Lib.hid (DrawT.refl h)
  clear h
  go_enter Try.func66, Try.ntmps66
  go_wp2_with fail
  refine (pick_any g K 30 _ (by omega) HR.out.2).mono ?_
  rintro e w1 ⟨r1, hr1, hR1, hg1, -, rfl⟩
  have HS1 := Lib.hid (HR.out.step hg1 hR1)
  clear hR1 hg1 hr1 HR
  by_cases h0 : r1 = 0
  · have hd : (r1 == 0) = true := by simp [h0]
    clear h0
    have HA := Lib.hid (HS1.out.alloc (.cells #[.int .i64 (-2), .int .i64 990, .int .i64 991] 3))
    have hn := new_cell w1 #[.int .i64 (-2), .int .i64 990, .int .i64 991] 3
    have hbl : w1.heap.size < (w1.alloc (.cells #[.int .i64 (-2), .int .i64 990, .int .i64 991] 3)).heap.size := by simp
    go_wp2_with fail
    refine (pick_any g (K + 1) 3 _ (by omega) HA.out.2).mono ?_
    rintro e w2 ⟨r2, hr2, hR2, hg2, -, rfl⟩
    have HS2 := Lib.hid (HA.out.step hg2 hR2)
    obtain ⟨q, rfl⟩ := Int.eq_ofNat_of_zero_le hr2.1
    have hq := hr2.2 (by omega)
    have hc : w2.cell? ⟨w1.heap.size, q, none⟩ = (#[.int .i64 (-2), .int .i64 990, .int .i64 991] : Array Value)[q]? := by
      rw [← hn q]
      exact World.cell?_of_block (hg2.block _ hbl (fun e => by injection e with e; have e' : w1.heap.size = g := e; have := HS1.out.2.lt; omega))
    clear hR2 hg2 hr2 HA hn
    have hq3 : q = 0 ∨ q = 1 ∨ q = 2 := by omega
    rcases hq3 with rfl | rfl | rfl
    · have hc' : w2.cell? ⟨w1.heap.size, 0, none⟩ = some (.int .i64 (-2)) := hc
      clear hc
      go_wp2_with fail
      go_ret
      exact ⟨_, HS2.out.more (by omega), rfl⟩
    · have hc' : w2.cell? ⟨w1.heap.size, 1, none⟩ = some (.int .i64 990) := hc
      clear hc
      go_wp2_with fail
      go_ret
      exact ⟨_, HS2.out.more (by omega), rfl⟩
    · have hc' : w2.cell? ⟨w1.heap.size, 2, none⟩ = some (.int .i64 991) := hc
      clear hc
      go_wp2_with fail
      go_ret
      exact ⟨_, HS2.out.more (by omega), rfl⟩
  · have hd : (r1 == 0) = false := by simp [h0]
    clear h0
    go_wp2_with fail
    refine (pick_any g (K + 1) 6 _ (by omega) HS1.out.2).mono ?_
    rintro e w2 ⟨r2, hr2, hR2, hg2, -, rfl⟩
    have HS2 := Lib.hid (HS1.out.step hg2 hR2)
    have hr21 := hr2.1
    have hr22 := hr2.2 (by omega)
    clear hR2 hg2 hr2 HS1
    go_wp2_with fail
    go_ret
    exact ⟨_, HS2.out.more (by omega), rfl⟩

abbrev IntS (w wr : World) (g k K : Nat) (v : Value) : Prop := RowS ci 3 1 w wr g k K v

set_option maxHeartbeats 1600000 in
theorem l92Refs_any (g K : Nat) (w : World) (hK : K ≤ 1000000000 - 40) (h : Rdr w g K) :
    Calls Try.prog 40 #[.pointer (some ⟨g, 0, none⟩)] w fun e w' => ∃ k v, k ≤ 4 ∧ IntS w w' g k (K + 20) v ∧ e = .returned v := by
  have hgw := h.lt
  have HR := Lib.hid (DrawT.refl h)
  clear h
  have HS0 : Hid (IntS w (w.alloc (.cells #[] 3)) g 0 K (.slice (some ⟨w.heap.size, 0, none⟩) 0 0)) :=
    ⟨[], rfl, own_nil_lit w _ 1, HR.out.alloc _⟩
  clear HR
  go_enter Try.func40, Try.ntmps40
  go_wp2_with fail
  go_loopw [3, 4] (fun v i wr => ∃ k : Nat, k ≤ 4 ∧ i = .int .i64 k ∧ IntS w wr g k (K + 3 * k) v) (fun _ i _ => 4 - (intOf i).toNat)
  case atStart => exact ⟨0, Nat.zero_le _, rfl, HS0.out⟩
  case round =>
    obtain ⟨k, hk, rfl, hS⟩ := hrel
    have HS := Lib.hid hS
    clear hS HS0
    by_cases hlt : k < 4
    · go_wp2_with fail
      refine (l92Value_any g (K + 3 * k) _ (by omega) HS.out.rdr).mono ?_
      rintro e w2 ⟨x, hD, rfl⟩
      have HS2 := Lib.hid (HS.out.row hgw hD)
      clear hD HS
      obtain ⟨vs, hvl, hown, hdr⟩ := HS2.out
      have hsz := hdr.1.size
      go_wp2_with (at_builtin; go_must (refine wpList_app Try.elInt (hown.alloc _) (rd_new w2 [.int .i64 x] _) rfl (by simp [Value.oneCell']) (by unfold maxLen; omega) (by omega) (by simp; omega) rfl rfl rfl rfl ?_); intro v' w4 hown4 hg4)
      exact ⟨⟨k + 1, by omega, by go_num, (RowS.app (xs := [x]) hgw hvl hown hdr rfl hown4 hg4).more (by omega)⟩, by simp [intOf]; omega⟩
    · have hk4 : k = 4 := by omega
      subst hk4
      obtain ⟨vs, hvl, hown, hdr⟩ := HS.out
      obtain ⟨gg, c, rfl, -, -, hc⟩ := own_slice hown (by omega)
      clear hown hdr hvl
      go_wp2_with fail
      refine (pick_any g (K + 3 * 4) 24 _ (by omega) HS.out.rdr).mono ?_
      rintro e w2 ⟨r, -, hR2, hg2, -, rfl⟩
      have HS2 := Lib.hid (HS.out.row hgw ⟨hg2, hR2⟩)
      clear hR2 hg2 HS
      by_cases h0 : r = 0
      · have hd : (r == 0) = true := by simp [h0]
        clear h0
        go_wp2_with fail
        refine (pick_any g (K + 3 * 4 + 1) 5 _ (by omega) HS2.out.rdr).mono ?_
        rintro e w3 ⟨r3, hr3, hR3, hg3, -, rfl⟩
        have HS3 := Lib.hid (HS2.out.row hgw ⟨hg3, hR3⟩)
        obtain ⟨q, rfl⟩ := Int.eq_ofNat_of_zero_le hr3.1
        have hq := hr3.2 (by omega)
        clear hR3 hg3 HS2 hr3
        have hq4 : q ≤ 4 := by omega
        have hqc : q ≤ c := by omega
        go_wp2_with fail
        go_ret
        exact ⟨q, _, hq4, (HS3.out.cut ci_len hq4).more (by omega), rfl⟩
      · have hd : (r == 0) = false := by simp [h0]
        clear h0
        go_wp2_with fail
        go_ret
        exact ⟨4, _, Nat.le_refl _, HS2.out.more (by omega), rfl⟩

end Go.Proofs.Ytfdcoeghomeadaa
