/-
  The walk of DrawRefsDiffer: two short rows of values in new memory. No condition.
-/
import Derived.Test.YtfdcoeghomeadaaDrawRA
namespace Go.Proofs.Ytfdcoeghomeadaa
open Go.RowKit

/-- what is left behind the draw of two rows of values -/
def DrawnD (w w' : World) (e : Ending) : Prop :=
  ∃ (A : Option Addr) (n c : Nat) (xs : List Int) (B : Option Addr) (m d : Nat) (ys : List Int), e = .returned (.tuple #[.slice A n c, .slice B m d]) ∧ n ≤ 4 ∧ m ≤ 4 ∧
    Ints w' w.heap.size w'.heap.size A n xs ∧ Ints w' w.heap.size w'.heap.size B m ys ∧ Below w.heap.size w w'

theorem IntS.put {w wr : World} {g k K : Nat} {q c : Nat} (hg : g < w.heap.size) (h : IntS w wr g k K (.slice (some ⟨q, 0, none⟩) k c)) (hq : w.heap.size ≤ q) (i : Nat) (x : Int) :
    IntS w (wr.setCell ⟨q, i, none⟩ (.int .i64 x)) g k K (.slice (some ⟨q, 0, none⟩) k c) := by
  obtain ⟨vs, h1, h2, h3⟩ := h
  refine ⟨vs.set i x, by rw [List.length_set]; exact h1, ?_, h3.setCell hq hg _⟩
  have := (h2.stored i (.int .i64 x)).1
  rwa [ci_set] at this

set_option maxRecDepth 100000 in
set_option maxHeartbeats 1600000 in
theorem drawRefsDiffer_any (A : Option Addr) (n c : Nat) (zs : List Int) (w : World) (h : IsRow .u8 w A n c zs) :
    Calls Try.prog 12 #[.slice A n c] w fun e w' => DrawnD w w' e := by
  have HI := Lib.hid h
  clear h
  go_enter Try.func12, Try.ntmps12
  go_wp2_with fail
  refine (l6Open_any _ _ _ zs _ HI.out).mono ?_
  rintro e w1 ⟨hR1, hb1, hs1, rfl⟩
  have HR1 := Lib.hid hR1
  have HB1 := Lib.hid hb1
  have HS1 := Lib.hid hs1
  have hlt1 := hR1.lt
  clear hR1 hb1 hs1
  go_wp2_with fail
  refine (l92Refs_any w.heap.size 0 _ (by omega) HR1.out).mono ?_
  rintro e w2 ⟨k, v, hk, hS2, rfl⟩
  have HS2 := Lib.hid hS2
  obtain ⟨A2, c2, vs, rfl, hkc, hcm, hF⟩ := hS2.fl
  have HF := Lib.hid hF
  have hcm' : c2 ≤ 9223372036854775807 := hcm
  have hs12 : w1.heap.size ≤ w2.heap.size := hS2.drw.1.size
  have hg2 : w.heap.size < w2.heap.size := by omega
  clear hS2 hF
  have hown0 := Lib.hid (own_nil_lit w2 3 1)
  go_wp2_with (at_builtin; go_must (refine wpList_app Try.elInt hown0.out (HF.out.2.alloc (Nat.le_refl _) _) (by rw [flat_len ci 1 ci_len, HF.out.1]) (by rw [flat_ci]; simp [Value.oneCell']) (by unfold maxLen; omega) (by omega) (by simp) rfl rfl rfl rfl ?_); intro v3 w3 hown3 hg3)
  rw [Nat.zero_add, List.nil_append] at hown3
  have HS3 : Hid (IntS w2 w3 w.heap.size k 20 v3) := ⟨vs, HF.out.1, hown3, ((DrawT.refl (HS2.out.rdr.more (by omega))).alloc _).own hg2 hown0.out hg3⟩
  obtain ⟨A3, c3, rfl, -, -, -⟩ := Rd.of_own hown3
  clear hown3 hg3
  go_wp2_with fail
  refine (pick_any w.heap.size 20 2 _ (by omega) HS3.out.rdr).mono ?_
  rintro e w4 ⟨r4, -, hR4, hg4, -, rfl⟩
  have HS4 := Lib.hid (HS3.out.row hg2 ⟨hg4, hR4⟩)
  clear hR4 hg4
  have hs24 : w2.heap.size ≤ w4.heap.size := HS4.out.drw.1.size
  have HB4 : Hid (Below w.heap.size w w4) := below_draw (below_draw HB1.out HS2.out.drw (Nat.le_refl _) HB1.out.size) HS4.out.drw (Nat.le_refl _) (Nat.le_of_lt hg2)
  have HF4 : Hid (Ints w4 w1.heap.size w2.heap.size A2 k vs) := HF.out.draw HS4.out.drw (Nat.le_refl _) hlt1
  have hlast : (r4 ≠ 0 ∨ k = 0) ∨ (r4 = 0 ∧ 0 < k) := by omega
  rcases hlast with hlast | ⟨h0, hkp⟩
  · have hd : (r4 == 0) = false ∨ ((r4 == 0) = true ∧ k = 0) := by
      by_cases h0 : r4 = 0
      · exact .inr ⟨by simp [h0], by omega⟩
      · exact .inl (by simp [h0])
    clear hlast
    rcases hd with hd | ⟨hd, rfl⟩
    all_goals
      go_wp2_with fail
      refine (l92Refs_any w.heap.size 21 _ (by omega) HS4.out.rdr).mono ?_
      rintro e w5 ⟨k5, v5, hk5, hS5, rfl⟩
      have HS5 := Lib.hid hS5
      obtain ⟨A5, c5, ys, rfl, -, -, hF5⟩ := hS5.fl
      have HF5 := Lib.hid hF5
      have hs45 : w4.heap.size ≤ w5.heap.size := hS5.drw.1.size
      clear hS5 hF5
      go_wp2_with fail
      go_ret2
      refine ⟨_, _, _, vs, _, _, _, ys, rfl, by omega, hk5, ((HF4.out.draw HS5.out.drw hs24 hlt1).more HB1.out.size (Nat.le_trans hs24 hs45)), HF5.out.more HB4.out.size (Nat.le_refl _), below_draw HB4.out HS5.out.drw (Nat.le_refl _) HB4.out.size⟩
  · have hd : (r4 == 0) = true := by simp [h0]
    have hkk : 0 < (k : Int) := by omega
    obtain ⟨vs4, h41, h42, h43⟩ := HS4.out
    obtain ⟨q, c3, hv3, hq2, hq4, hkc3⟩ := own_slice h42 hkp
    injection hv3 with hv31 hv32 hv33
    subst hv31 hv33
    clear h41 h42 h43 h0
    go_wp2_with fail
    refine (pick_any w.heap.size 21 k _ (by omega) HS4.out.rdr).mono ?_
    rintro e w5 ⟨r5, hr5, hR5, hg5, -, rfl⟩
    have HS5 := Lib.hid (HS4.out.row hg2 ⟨hg5, hR5⟩)
    obtain ⟨i, rfl⟩ := Int.eq_ofNat_of_zero_le hr5.1
    have hi := hr5.2 (by omega)
    clear hR5 hg5 hr5
    have hik : i < k := by omega
    go_wp2_with fail
    refine (pick_any w.heap.size 22 6 _ (by omega) HS5.out.rdr).mono ?_
    rintro e w6 ⟨r6, hr6, hR6, hg6, -, rfl⟩
    have HS6 := Lib.hid (HS5.out.row hg2 ⟨hg6, hR6⟩)
    have hr61 := hr6.1
    have hr62 := hr6.2 (by omega)
    clear hR6 hg6 hr6
    obtain ⟨vs6, h61, h62, h63⟩ := HS6.out
    obtain ⟨u0, hg0, hf0⟩ := own_cells h62 hik 0 (by omega)
    rw [Nat.mul_one, Nat.add_zero] at hg0 hf0
    clear h61 h62 h63
    have HS7 := Lib.hid (IntS.put hg2 HS6.out hq2 i (r6 - 1))
    go_wp2_with fail
    go_ret2
    obtain ⟨A7, c7, ys, hv, -, -, hF7⟩ := HS7.out.fl
    injection hv with hv1 hv2 hv3
    subst hv1 hv3
    exact ⟨_, _, _, vs, _, _, _, ys, rfl, by omega, hk, (HF.out.draw HS7.out.drw (Nat.le_refl _) hlt1).more HB1.out.size (by have := HS7.out.drw.1.size; omega), hF7.more (Nat.le_of_lt hg2) (Nat.le_refl _), below_draw (below_draw HB1.out HS2.out.drw (Nat.le_refl _) HB1.out.size) HS7.out.drw (Nat.le_refl _) (Nat.le_of_lt hg2)⟩

end Go.Proofs.Ytfdcoeghomeadaa
