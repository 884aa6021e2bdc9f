/-
  The walk of the reader from which inputs are drawn: 'pick' answers a number from 0 to n - 1 and moves the reader's place by one; 'l6Open' makes a reader. Condition: the reader's place is small.
-/
import Derived.Test.YtgnhanbdfohjaaaOpen
import Derived.Deep.QuietTactic
import Derived.BigQuiet
import Derived.Laws.BitsAllLaws
import Derived.Laws.BitsLemmas
namespace Go.Proofs.Ytgnhanbdfohjaaa
set_option linter.unusedVariables false
set_option linter.unusedSimpArgs false
open Go.RowKit

/-- block g is a reader whose place is at most K; its bytes lie below it -/
def Rdr (w : World) (g K : Nat) : Prop :=
  ∃ (A : Option Addr) (n c p : Nat) (bs : List Int), p ≤ K ∧ n ≤ 2000 ∧ w.heap[g]? = some (.cells #[.slice A n c, .int .i64 p] 78 (0, 0)) ∧ Fl (ck .u8) w 0 g A n bs ∧ ∀ b ∈ bs, 0 ≤ b ∧ b ≤ 255

theorem Rdr.lt {w : World} {g K : Nat} (h : Rdr w g K) : g < w.heap.size := by
  obtain ⟨_, _, _, _, _, _, _, h, _⟩ := h
  rcases Nat.lt_or_ge g w.heap.size with hlt | hge
  · exact hlt
  · rw [Array.getElem?_eq_none hge] at h; cases h
theorem Rdr.grown {w w' : World} {g K : Nat} {row : Option Nat} (h : Rdr w g K) (hg : w.grownBy w' row) (hr : ∀ k, row = some k → g < k) : Rdr w' g K := by
  have hl := h.lt
  obtain ⟨A, n, c, p, bs, h1, h2, h3, h4, h5⟩ := h
  exact ⟨A, n, c, p, bs, h1, h2, (hg.block g hl (fun e => by have := hr _ e.symm; omega)).trans h3, h4.grown hg (by omega) (fun k hk => .inr (Nat.le_of_lt (hr k hk))), h5⟩
theorem Rdr.drewN {w : World} {g K : Nat} (h : Rdr w g K) (n : Nat) : Rdr (w.drewN n) g K := h
theorem Rdr.more {w : World} {g K K' : Nat} (h : Rdr w g K) (hK : K ≤ K') : Rdr w g K' := by
  obtain ⟨A, n, c, p, bs, h1, h⟩ := h
  exact ⟨A, n, c, p, bs, Nat.le_trans h1 hK, h⟩
theorem Rdr.alloc {w : World} {g K : Nat} (h : Rdr w g K) (o : Obj) : Rdr (w.alloc o) g K := h.grown (World.grownBy_alloc w o none) (fun _ h => by cases h)

/-- what a pick answers -/
def PickR (m r : Int) : Prop := 0 ≤ r ∧ (1 ≤ m → r < m)

theorem xor_nn (a b : Int) (ha : 0 ≤ a) (hb : 0 ≤ b) (ha' : a < 9223372036854775808) (hb' : b < 9223372036854775808) : 0 ≤ bits .xor .i64 a b := by
  obtain ⟨x, rfl⟩ := Int.eq_ofNat_of_zero_le ha
  obtain ⟨y, rfl⟩ := Int.eq_ofNat_of_zero_le hb
  have hx : x < 9223372036854775808 := by omega
  have hy : y < 9223372036854775808 := by omega
  have e : ∀ a : Nat, a < 9223372036854775808 → (BitVec.ofInt 64 (a : Int)).toNat = a := fun a ha => by
    rw [BitVec.ofInt_natCast, BitVec.toNat_ofNat]; exact Nat.mod_eq_of_lt (by omega)
  have hx2 : x ^^^ y < 2 ^ 63 := Nat.xor_lt_two_pow (by omega) (by omega)
  have : bits .xor .i64 (x : Int) (y : Int) = ((x ^^^ y : Nat) : Int) := by
    show IntKind.i64.wrap ((BitVec.ofInt 64 (x : Int) ^^^ BitVec.ofInt 64 (y : Int)).toNat : Int) = _
    rw [BitVec.toNat_xor, e x hx, e y hy, IntKind.wrap_i64]
    omega
  rw [this]; omega

set_option maxHeartbeats 1000000 in
theorem pick_any (g K : Nat) (m : Int) (w : World) (hK : K ≤ 1000000000) (h : Rdr w g K) :
    Calls Try.prog 41 #[.pointer (some ⟨g, 0, none⟩), .int .i64 m] w fun e w' => ∃ r, PickR m r ∧ Rdr w' g (K + 1) ∧ w.grownBy w' (some g) ∧ w'.heap.size = w.heap.size ∧ e = .returned (.int .i64 r) := by
  have hlt := h.lt
  obtain ⟨A, n, c, p, bs, hp, hn, hh, hf, hb⟩ := h
  have h0 : w.cell? ⟨g, 0, none⟩ = some (.slice A n c) := cell_of_row w g 0 _ _ _ hh
  have h1 : w.cell? ⟨g, 1, none⟩ = some (.int .i64 p) := cell_of_row w g 1 _ _ _ hh
  have hfz : w.frozen? ⟨g, 1, none⟩ = false := frozen_of_row w g 1 _ _ hh
  have hw : ∀ nq, Rdr ((w.setCell ⟨g, 1, none⟩ (.int .i64 (p + 1))).drewN nq) g (K + 1) ∧ w.grownBy ((w.setCell ⟨g, 1, none⟩ (.int .i64 (p + 1))).drewN nq) (some g) ∧ ((w.setCell ⟨g, 1, none⟩ (.int .i64 (p + 1))).drewN nq).heap.size = w.heap.size := fun nq => by
    refine ⟨⟨A, n, c, p + 1, bs, by omega, hn, ?_, (hf.setCell (.inr (Nat.le_refl _)) _).drewN nq, hb⟩, ⟨rfl, rfl, rfl, by simp [World.drewN, World.setCell], fun k hk hne => ?_⟩, by simp [World.drewN, World.setCell]⟩
    · show (w.setCell ⟨g, 1, none⟩ (.int .i64 (p + 1))).heap[g]? = _
      rw [heap_setCell_same w g 1 _ _ _ hh]; rfl
    · exact Below.heap_setCell _ _ _ _ (fun e => hne (by rw [e]))
  have HW := Lib.hid hw
  have HF := Lib.hid hf
  clear hw hf hh
  by_cases hm : m < 1
  · go_enter Try.func41, Try.ntmps41
    go_wp2
    go_ret
    exact ⟨0, ⟨by omega, by omega⟩, (HW.out 0).1, (HW.out 0).2.1, (HW.out 0).2.2, rfl⟩
  · by_cases hz : n = 0
    · subst hz
      go_enter Try.func41, Try.ntmps41
      go_wp2
      go_ret
      exact ⟨0, ⟨by omega, by omega⟩, (HW.out 0).1, (HW.out 0).2.1, (HW.out 0).2.2, rfl⟩
    · have hn1 : (n == 0) = false := by simp [hz]
      have hn2 : ((n : Int) == 0) = false := by rw [beq_eq_false_iff_ne]; omega
      have hn3 : (0 : Int) < n := by omega
      by_cases hpn : p < n
      · obtain ⟨b, o, hl, rfl, _, hbg, hc⟩ := HF.out.at_ (m := 1) (fun _ => rfl) (by omega) hpn
        have hc1 := hc 0 _ rfl
        simp only [Nat.mul_one, Nat.add_zero] at hc1
        have hc2 : (w.setCell ⟨g, 1, none⟩ (.int .i64 (p + 1))).cell? ⟨b, o + p, none⟩ = some (.int .u8 bs[p]) := by
          rw [World.cell?_setCell_other _ _ _ _ (addr_ne (Nat.ne_of_gt hbg))]; exact hc1
        have hbb := hb bs[p] (List.getElem_mem hl)
        have hb0 := hbb.1
        have hb1 := hbb.2
        clear hc hc1 hbb hb
        go_enter Try.func41, Try.ntmps41
        go_wp2
        go_ret
        exact ⟨_, ⟨Int.emod_nonneg _ (by omega), fun _ => Int.emod_lt_of_pos _ (by omega)⟩, (HW.out 0).1, (HW.out 0).2.1, (HW.out 0).2.2, rfl⟩
      · have hq1 : p % n < n := Nat.mod_lt _ (by omega)
        have hq2 : (p * 7 + 3) % n < n := Nat.mod_lt _ (by omega)
        obtain ⟨b, o, hl, rfl, _, hbg, hc⟩ := HF.out.at_ (m := 1) (fun _ => rfl) (by omega) hq1
        obtain ⟨b', o', hl', he, _, _, hc'⟩ := HF.out.at_ (m := 1) (fun _ => rfl) (by omega) hq2
        injection he with he
        injection he with he1 he2
        subst he1 he2
        have hc1 := hc 0 _ rfl
        have hc1' := hc' 0 _ rfl
        simp only [Nat.mul_one, Nat.add_zero] at hc1 hc1'
        have hc2 : (w.setCell ⟨g, 1, none⟩ (.int .i64 (p + 1))).cell? ⟨b, o + p % n, none⟩ = some (.int .u8 bs[p % n]) := by
          rw [World.cell?_setCell_other _ _ _ _ (addr_ne (Nat.ne_of_gt hbg))]; exact hc1
        have hc2' : (w.setCell ⟨g, 1, none⟩ (.int .i64 (p + 1))).cell? ⟨b, o + (p * 7 + 3) % n, none⟩ = some (.int .u8 bs[(p * 7 + 3) % n]) := by
          rw [World.cell?_setCell_other _ _ _ _ (addr_ne (Nat.ne_of_gt hbg))]; exact hc1'
        have hb0 := (hb bs[p % n] (List.getElem_mem hl)).1
        have hb1 := (hb bs[p % n] (List.getElem_mem hl)).2
        have hb0' := (hb bs[(p * 7 + 3) % n] (List.getElem_mem hl')).1
        have hb1' := (hb bs[(p * 7 + 3) % n] (List.getElem_mem hl')).2
        clear hc hc1 hc' hc1' hb
        have hq3 : ((p : Int) * 7 + 3) % (n : Int) < (n : Int) := Int.emod_lt_of_pos _ (by omega)
        have hq4 : 0 ≤ ((p : Int) * 7 + 3) % (n : Int) := Int.emod_nonneg _ (by omega)
        have hq5 : 0 ≤ (p : Int) / (n : Int) := Int.ediv_nonneg (by omega) (by omega)
        have hq6 : (p : Int) / (n : Int) ≤ 1000000000 := Int.le_trans (Int.ediv_le_self _ (by omega)) (by omega)
        have hq7 : 0 ≤ bits .xor .i64 (bs[p % n] * 131 + bs[(p * 7 + 3) % n] * 1117 + (p : Int) * 29 + (p : Int) / (n : Int) * 53) ((bs[p % n] * 131 + bs[(p * 7 + 3) % n] * 1117 + (p : Int) * 29 + (p : Int) / (n : Int) * 53) / 64) :=
          xor_nn _ _ (by omega) (by omega) (by omega) (by omega)
        go_enter Try.func41, Try.ntmps41
        go_wp2
        go_quiet (fail)
        go_wp2
        go_ret
        refine ⟨_, ?_, (HW.out nq).1, (HW.out nq).2.1, (HW.out nq).2.2, rfl⟩
        exact ⟨Int.emod_nonneg _ (by omega), fun _ => Int.emod_lt_of_pos _ (by omega)⟩

theorem fl_take {α : Type} {f : α → List Value} {w : World} {lo hi : Nat} {A : Option Addr} {n k : Nat} {xs : List α} (h : Fl f w lo hi A n xs) (hk : k ≤ n) : Fl f w lo hi A k (xs.take k) := by
  refine ⟨by rw [List.length_take, h.1]; omega, fun hne => ?_⟩
  have e : xs.flatMap f = (xs.take k).flatMap f ++ (xs.drop k).flatMap f := by rw [← List.flatMap_append, List.take_append_drop]
  have hne' : xs.flatMap f ≠ [] := by rw [e]; intro h0; exact hne (List.append_eq_nil_iff.1 h0).1
  obtain ⟨b, o, rfl, g1, g2, hc⟩ := h.2 hne'
  refine ⟨b, o, rfl, g1, g2, fun j u hu => hc j u ?_⟩
  rw [e, List.getElem?_append_left (List.getElem?_eq_some_iff.1 hu).1]; exact hu

theorem wf_u8 {n : Int} (h : (Lit.int .u8 n).wf = true) : 0 ≤ n ∧ n ≤ 255 := by
  have := bounds_u8 h
  omega

set_option maxHeartbeats 400000 in
theorem l6Open_any (A : Option Addr) (n c : Nat) (zs : List Int) (w : World) (h : IsRow .u8 w A n c zs) :
    Calls Try.prog 34 #[.slice A n c] w fun e w' => Rdr w' w.heap.size 0 ∧ Below w.heap.size w w' ∧ w'.heap.size = w.heap.size + 1 ∧ e = .returned (.pointer (some ⟨w.heap.size, 0, none⟩)) := by
  have hcap := h.cap
  have hbd := h.bd
  have hfl := h.fl
  have hwf := h.wf
  have hc1 : n ≤ c := hcap.1
  have hc2 : c ≤ 9223372036854775807 := by have := hcap.2; unfold maxLen at this; exact this
  clear h hcap
  have key : ∀ (k : Nat), k ≤ n → k ≤ 2000 → Rdr (w.alloc (.cells #[.slice A k c, .int .i64 0] 78)) w.heap.size 0 := fun k hk hk2 =>
    ⟨A, k, c, 0, _, Nat.le_refl _, hk2, heap_alloc_new w _, (fl_take hfl hk).alloc (Nat.le_refl _) _, fun b hb => wf_u8 (hwf b (List.mem_of_mem_take hb))⟩
  have hb : ∀ o, Below w.heap.size w (w.alloc o) := fun o => (Below.refl _ _).alloc (Nat.le_refl _) o
  have KEY := Lib.hid key
  have HB := Lib.hid hb
  clear key hb hfl hwf
  by_cases hn : 2000 < n
  · have h2 : 2000 ≤ c := by omega
    go_enter Try.func34, Try.ntmps34
    go_wp2
    go_ret
    exact ⟨KEY.out 2000 (by omega) (by omega), HB.out _, by simp, rfl⟩
  · go_enter Try.func34, Try.ntmps34
    go_wp2
    go_ret
    exact ⟨KEY.out n (by omega) (by omega), HB.out _, by simp, rfl⟩

end Go.Proofs.Ytgnhanbdfohjaaa
