/-
  slices.Backward at lists of objects: what it hands back stops as a sequence of pairs (index, list), from the last to the first. No condition.
-/
import Derived.RangeFuncNested
import Derived.RangeFuncBound
import Derived.RangeFuncCalls
import Derived.RangeFuncLeaves
import Derived.RangeFuncBox
import Derived.Shelf.Abstract
import Derived.Shelf.RegionOpen
import Derived.WalkKit
import Derived.OwnWalkIn
import Derived.TacticsInMore
import Derived.LoopNIn
import Derived.LoopIn
import Derived.Test.YtgpjcmplnigmcaaReaP
namespace Go.Proofs.Ytgpjcmplnigmcaa
set_option linter.unusedVariables false
set_option linter.unusedSimpArgs false
open Go.RowKit Go.Shelf

attribute [local go_sem] Oper.semAt_some
@[local go_sem] theorem binOp_geqI (t : TypeId) (k : IntKind) (a b : Int) : binOp .geq t (.int k a) (.int k b) = pure (.bool (decide (b ≤ a))) := by simp [binOp, Op.intCmp]

/-- the places from the last down to k -/
def bk (N k : Nat) : List (Fin N) := ((List.finRange N).drop k).reverse
/-- what lies below n and in the box B is kept -/
def KpB (n B : Nat) (W W' : World) : Prop := Below n W W' ∧ W'.cell? ⟨B, 0, none⟩ = W.cell? ⟨B, 0, none⟩
theorem KpB.refl (n B : Nat) (W : World) : KpB n B W W := ⟨Below.refl _ _, rfl⟩
theorem KpB.trans {n B : Nat} {X Y Z : World} (h : KpB n B X Y) (k : KpB n B Y Z) : KpB n B X Z := ⟨h.1.trans k.1, k.2.trans h.2⟩
theorem bk_top (N : Nat) : bk N N = [] := by
  unfold bk; rw [List.drop_of_length_le (by simp)]; rfl
theorem bk_len (N k : Nat) : (bk N k).length = N - k := by simp [bk]
theorem bk_succ {N k : Nat} (h : k < N) : bk N k = bk N (k + 1) ++ [⟨k, h⟩] := by
  unfold bk
  rw [List.drop_eq_getElem_cons (by simpa using h), List.reverse_cons]
  simp

set_option maxRecDepth 100000 in
set_option maxHeartbeats 2000000 in
theorem back1_in (F : Fence) (n : Nat) (hf : F.fn 120) (hro : F.round = none) (hn : 1 ≤ n) (l Bs n₀ b N cap : Nat) (vs : Fin N → Value) (hreach : N ≤ 1048576) (hb : b < n₀) (J Jx : List (Fin N) → World → Prop)
    (hv : ∀ j, (vs j).oneCell' = true)
    (hY : ∀ pre (x : Fin N) W, J pre W → pre.length < N → YieldAt F (n - 1) Try.prog l #[.int .i64 (x.val : Int), vs x] W fun e W' =>
      (e = .returned (.bool true) ∧ J (pre ++ [x]) W' ∧ KpB n₀ Bs W W') ∨ (e = .returned (.bool false) ∧ Jx (pre ++ [x]) W'))
    (W : World) (hBs : W.cell? ⟨Bs, 0, none⟩ = some (.slice (some ⟨b, 0, none⟩) N cap)) (hc : ∀ (j : Nat) (h : j < N), W.cell? ⟨b, j, none⟩ = some (vs ⟨j, h⟩)) (h0 : J [] W) :
    CallsIn F n Try.prog 120 #[.func (.yield l) #[] #[], .pointer (some ⟨Bs, 0, none⟩)] W fun e W' => (∃ v, e = .returned v) ∧
      ((∃ ys, ys = bk N 0 ∧ J ys W') ∨ (∃ pre, (∃ k, pre = bk N k) ∧ Jx pre W')) := by
  refine callsIn_of_wp Try.func120 rfl hf ?_ hro
  simp only [Try.ntmps120, List.size_toArray, List.length_cons, List.length_nil, Nat.reduceAdd, Nat.reduceSub, Array.replicate_succ, Array.replicate_zero, List.push_toArray, List.append_toArray, List.nil_append, List.cons_append]
  gi_wp2
  gi_loopw [3] (fun i wr => ∃ (k : Nat) (x : Int), k ≤ N ∧ x = (k : Int) - 1 ∧ i = .int .i64 x ∧ J (bk N k) wr ∧ KpB n₀ Bs W wr)
    (fun i _ => (intOf i + 1).toNat)
  case atStart => exact ⟨N, _, Nat.le_refl _, rfl, by go_num, by rw [bk_top]; exact h0, KpB.refl _ _ _⟩
  case round =>
    obtain ⟨k, x, hk, hx, rfl, hJs, hnx⟩ := hrel
    have hB' : wr.cell? ⟨Bs, 0, none⟩ = some (.slice (some ⟨b, 0, none⟩) N cap) := hnx.2.trans hBs
    rcases k with _ | k
    · obtain rfl : x = -1 := by omega
      clear hx
      gi_wp2
      go_end0
      exact ⟨⟨_, rfl⟩, .inl ⟨_, rfl, hJs⟩⟩
    · obtain rfl : x = (k : Int) := by omega
      clear hx
      have hlt : k < N := by omega
      have hcx : wr.cell? ⟨b, k, none⟩ = some (vs ⟨k, hlt⟩) := (hnx.1.cell (p := ⟨b, k, none⟩) hb).trans (hc k hlt)
      obtain ⟨fn, tmps, assign, body, hy, hR⟩ := hY _ ⟨k, hlt⟩ wr hJs (by rw [bk_len]; omega)
      dsimp only at hy
      generalize hvk : vs ⟨k, hlt⟩ = vk at hcx hy
      have h1 : vk.oneCell' = true := by rw [← hvk]; exact hv _
      have h00 : (0 : Int) ≤ (k : Int) := by omega
      gi_wp2
      refine hR.mono ?_
      rintro e W3 (⟨rfl, hJ3, hk3⟩ | ⟨rfl, hJx3⟩)
      · gi_wp2
        go_roundw
        case rel => exact ⟨k, _, by omega, rfl, by go_num, by rw [bk_succ hlt]; exact hJ3, hnx.trans hk3⟩
        case measure => simp [intOf]
      · gi_wp2
        refine bodyPost_ret (results_none rfl _ _ _) rfl ?_
        exact ⟨⟨_, rfl⟩, .inr ⟨_, ⟨k, (bk_succ hlt).symm⟩, hJx3⟩⟩

set_option maxHeartbeats 1000000 in
theorem back_in (F : Fence) (n : Nat) (hf : F.fn 104) (hro : F.round = none) (a : Option Addr) (len cap : Nat) (w : World) :
    CallsIn F n Try.prog 104 #[.slice a len cap] w fun e w' => e = .returned (.func (.func 120) #[] #[.pointer (some ⟨w.heap.size, 0, none⟩)]) ∧ w' = w.alloc (.cells #[.slice a len cap] 119) := by
  refine callsIn_of_wp Try.func104 rfl hf ?_ hro
  simp only [Try.ntmps104, List.size_toArray, List.length_cons, List.length_nil, Nat.reduceAdd, Nat.reduceSub, Array.replicate_succ, Array.replicate_zero, List.push_toArray, List.append_toArray, List.nil_append, List.cons_append]
  gi_wp2
  go_ret
  exact ⟨rfl, rfl⟩

/-- what slices.Backward hands back -/
theorem back_stops (F : Fence) (n : Nat) (hf : F.fn 120) (hro : F.round = none) (hn : 1 ≤ n) (Bs n₀ b N cap : Nat) (vs : Fin N → Value) (hreach : N ≤ 1048576) (hb : b < n₀) (hv : ∀ j, (vs j).oneCell' = true) (w : World) (hBs : Bs < w.heap.size) (hn₀ : n₀ ≤ w.heap.size)
    (h : w.cell? ⟨Bs, 0, none⟩ = some (.slice (some ⟨b, 0, none⟩) N cap)) (hc : ∀ (j : Nat) (h : j < N), w.cell? ⟨b, j, none⟩ = some (vs ⟨j, h⟩)) :
    SeqStopsK F n Try.prog 120 #[.pointer (some ⟨Bs, 0, none⟩)] (fun x : Fin N => #[Value.int .i64 (x.val : Int), vs x]) (KpB n₀ Bs) (fun ys => ys = bk N 0) (fun pre => ∃ k, pre = bk N k) N w := fun l J Jx W hW _ _ hY h0 =>
  back1_in F n hf hro hn l Bs n₀ b N cap vs hreach hb J Jx hv hY W ((hW.cell (p := ⟨Bs, 0, none⟩) hBs).trans h) (fun j hj => (hW.cell (p := ⟨b, j, none⟩) (Nat.lt_of_lt_of_le hb hn₀)).trans (hc j hj)) h0

end Go.Proofs.Ytgpjcmplnigmcaa
