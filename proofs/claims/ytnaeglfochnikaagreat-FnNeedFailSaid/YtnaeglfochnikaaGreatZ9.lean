/-
  A row of numbers in memory of the call's own from which the first ones may have been cut away: append onto it, its rest. Plain law over any program.
  slices.Backward at lists of objects: what it hands back stops as a sequence of pairs (index, list), from the last to the first. No condition.
-/
import Derived.Test.YtnaeglfochnikaaGreatZ6
import Derived.Test.YtnaeglfochnikaaGreatZ8
import Derived.ArgAppend
import Derived.Deep.MidRow
import Derived.Lib.BufferWrite
import Derived.RangeFuncNested
import Derived.RangeFuncBound
import Derived.RangeFuncCalls
import Derived.RangeFuncLeaves
import Derived.RangeFuncBox
import Derived.Shelf.Abstract
import Derived.Shelf.RegionOpen
import Derived.WalkKit
import Derived.OwnWalkIn
import Derived.TacticsInMore
import Derived.LoopNIn
import Derived.LoopIn
import Derived.Test.YtnaeglfochnikaaGreatZ3
namespace Go.Proofs.YtnaeglfochnikaaGreat
set_option linter.unusedVariables false
set_option linter.unusedSimpArgs false
open Go.RowKit

/-- v holds the numbers xs in a block of its own, from some place on -/
def QRow (w : World) (base : Nat) (v : Value) (xs : List Int) : Prop :=
  (v = .slice none 0 0 ∧ xs = []) ∨ ∃ g off cap, v = .slice (some ⟨g, off, none⟩) xs.length cap ∧ base ≤ g ∧ g < w.heap.size ∧ xs.length ≤ cap ∧ cap ≤ maxLen ∧
    (∀ j (h : j < xs.length), w.cell? ⟨g, off + j, none⟩ = some (.int .i64 xs[j])) ∧ ∀ j, j < cap → (w.cell? ⟨g, off + j, none⟩).isSome = true ∧ w.frozen? ⟨g, off + j, none⟩ = false
section
variable {w w' : World} {base : Nat} {v : Value} {xs : List Int}
theorem QRow.kept {row : Option Nat} (h : QRow w base v xs) (hg : w.grownBy w' row) (hr : ∀ g, v.ownBlock = some g → row ≠ some g) : QRow w' base v xs := by
  rcases h with h | ⟨g, off, cap, rfl, h1, h2, h3, h4, h5, h6⟩
  · exact .inl h
  · have hb : w'.heap[g]? = w.heap[g]? := hg.block g h2 (fun e => hr g rfl e.symm)
    refine .inr ⟨g, off, cap, rfl, h1, Nat.lt_of_lt_of_le h2 hg.size, h3, h4, fun j hj => ?_, fun j hj => ?_⟩
    · exact (World.cell?_of_block (a := ⟨g, off + j, none⟩) hb).trans (h5 j hj)
    · rw [World.cell?_of_block (a := ⟨g, off + j, none⟩) hb, World.frozen?_of_block (a := ⟨g, off + j, none⟩) hb]
      exact h6 j hj
theorem QRow.shape (h : QRow w base v xs) : ∃ A c, v = .slice A xs.length c := by
  rcases h with ⟨rfl, rfl⟩ | ⟨g, off, cap, rfl, _⟩
  · exact ⟨none, 0, rfl⟩
  · exact ⟨_, cap, rfl⟩
theorem QRow.of_own {e : TypeId} (h : w.ownsRow base e 1 v xs.length (xs.flatMap ci)) : QRow w base v xs := by
  have hcells := @World.ownsRow.cells
  rcases h.2 with ⟨rfl, h0⟩ | ⟨g, cap, cur, rfl, hbg, hg, hnc, hcm, hcs, htake⟩
  · exact .inl ⟨rfl, List.eq_nil_of_length_eq_zero h0⟩
  · refine .inr ⟨g, 0, cap, rfl, hbg, ?_, hnc, hcm, fun j hj => ?_, fun j hj => ?_⟩
    · rcases Nat.lt_or_ge g w.heap.size with hlt | hge
      · exact hlt
      · rw [Array.getElem?_eq_none hge] at hg; cases hg
    · have h1 : (xs.flatMap ci)[j]? = some (.int .i64 xs[j]) := by
        have h2 : ∀ ys : List Int, ys.flatMap ci = ys.map fun x => Value.int .i64 x := fun ys => by
          induction ys with
          | nil => rfl
          | cons y ys ih => rw [List.flatMap_cons, ih]; rfl
        rw [h2]; simp [hj]
      have h3 := h.cells (g := g) rfl j _ h1
      have e2 : (⟨g, 0, none⟩ : Addr).add j = ⟨g, 0 + j, none⟩ := by
        unfold Addr.add
        by_cases hj0 : j = 0 <;> simp [hj0]
      rw [e2] at h3
      exact h3
    · have hlt : 0 + j < cur.size := by rw [hcs]; omega
      rw [Nat.zero_add] at hlt ⊢
      simp [World.cell?, World.frozen?, hg, hlt]
theorem QRow.rest {x : Int} {A : Option Addr} {n c : Nat} (h : QRow w base (.slice A n c) (x :: xs)) : ∃ g off, A = some ⟨g, off, none⟩ ∧ n = xs.length + 1 ∧ n ≤ c ∧ c ≤ maxLen ∧ w.cell? ⟨g, off, none⟩ = some (.int .i64 x) ∧
    QRow w base (sliced A 1 n c 1) xs ∧ (sliced A 1 n c 1).ownBlock = some g := by
  rcases h with ⟨h, _⟩ | ⟨g, off, cap, h, h1, h2, h3, h4, h5, h6⟩
  · injection h with h1 h2; simp_all
  · injection h with e1 e2 e3
    subst e1 e2 e3
    refine ⟨g, off, rfl, rfl, h3, h4, h5 0 (by simp), ?_, ?_⟩
    · by_cases hc : c = 1
      · have hx : xs = [] := by
          rcases xs with _ | ⟨y, ys⟩
          · rfl
          · simp at h3; omega
        subst hx hc
        refine .inr ⟨g, off, 0, by simp [sliced], h1, h2, Nat.le_refl _, by omega, fun j hj => by simp at hj, fun j hj => by omega⟩
      · refine .inr ⟨g, off + 1, c - 1, by simp [sliced, hc, Addr.add], h1, h2, by simp at h3; omega, by omega, fun j hj => ?_, fun j hj => ?_⟩
        · have := h5 (j + 1) (by simp; omega)
          rw [show off + 1 + j = off + (j + 1) by omega]
          simpa using this
        · rw [show off + 1 + j = off + (j + 1) by omega]
          exact h6 (j + 1) (by omega)
    · by_cases hc : c = 1 <;> simp [sliced, hc, Addr.add, Value.ownBlock]
theorem grownBy_setCells (b : Nat) : ∀ (vs : List Value) (o : Nat) (w : World), w.grownBy (w.setCells b o vs) (some b)
  | [], _, w => World.grownBy.refl w _
  | v :: r, o, w => by
    rw [World.setCells]
    have h1 := grownBy_setCells b r (o + 1) (w.setCell ⟨b, o, none⟩ v)
    have h2 := Lib.grownBy_setCell w b o v
    exact ⟨h1.os.trans h2.os, h1.tape.trans h2.tape, h1.output.trans h2.output, Nat.le_trans h2.size h1.size, fun k hk hne => (h1.block k (Nat.lt_of_lt_of_le hk h2.size) hne).trans (h2.block k hk hne)⟩
/-- append onto it -/
theorem QRow.app {P : Program} {t e ty : TypeId} {ls : List Int} {A : Option Addr} {c lo hi : Nat} (E : ElemT P t e (.int .i64 0) 1 8) (h : QRow w base v xs) (hr : Rd w lo hi A (ls.flatMap ci)) (h63 : xs.length + ls.length ≤ 1048576) (hbase : base ≤ w.heap.size) :
    ∃ v' w', (Builtin.append_ #[t, t] ty #[v, .slice A ls.length c]).run P w = .ok v' w' ∧ QRow w' base v' (xs ++ ls) ∧ w.grownBy w' v.ownBlock ∧ (v'.ownBlock = v.ownBlock ∨ ∀ g, v'.ownBlock = some g → w.heap.size ≤ g) := by
  have hci : ∀ ys : List Int, ys.flatMap ci = ys.map fun x => Value.int .i64 x := fun ys => by
    induction ys with
    | nil => rfl
    | cons y ys ih => rw [List.flatMap_cons, ih]; rfl
  have hone : ∀ u ∈ ls.flatMap ci, u.oneCell' = true := fun u hu => by
    rw [hci] at hu
    obtain ⟨x, _, rfl⟩ := List.mem_map.1 hu
    rfl
  have hll : (ls.flatMap ci).length = ls.length * 1 := by rw [hci]; simp
  rcases h with ⟨rfl, rfl⟩ | ⟨g, off, cap, rfl, h1, h2, h3, h4, h5, h6⟩
  · obtain ⟨v', w', hrun, ho, hg, hb⟩ := run_app_at (P := P) (ty := ty) (c := c) (m := ls.length) (n := 0) (cs := []) E (World.ownsRow_nil w base e 1) hr hll hone (by unfold maxLen; simp at h63; omega) (by simp at h63; omega) hbase
    refine ⟨v', w', hrun, ?_, hg, hb.imp id (fun h g hg => by rw [h] at hg; injection hg with hg; omega)⟩
    rw [List.nil_append]
    rw [Nat.zero_add, List.nil_append] at ho
    exact QRow.of_own ho
  · obtain ⟨i, hi, hz, hz1, hz2⟩ := info_parts E.info
    by_cases hne : ls = []
    · subst hne
      refine ⟨_, w, ?_, .inr ⟨g, off, cap, by simp, h1, h2, by simpa using h3, h4, by simpa using h5, h6⟩, World.grownBy.refl w _, .inl rfl⟩
      rcases A with _ | ad
      · simp [Builtin.append_, run_underlying E.under, sizeOf, typeInfo, hi, Builtin.lenOf, Builtin.firstCells, h3, storeCells]
      · have := run_append_room_cells (P := P) w t ty e i E.under hi g off xs.length cap ad 0 c [] (by simp) (by simp) (by simp) h3 (by simp) (by simp)
        simpa [World.setCells] using this
    · obtain ⟨b, o, rfl, _, _, hc⟩ := hr (by intro h0; rw [h0] at hll; simp at hll; exact hne (List.eq_nil_of_length_eq_zero hll.symm))
      have hnews : ∀ j u, (ls.flatMap ci)[j]? = some u → w.cell? ((⟨b, o, none⟩ : Addr).add j) = some u := fun j u hu => by
        have e2 : (⟨b, o, none⟩ : Addr).add j = ⟨b, o + j, none⟩ := by
          unfold Addr.add
          by_cases hj : j = 0 <;> simp [hj]
        rw [e2]; exact hc j u hu
      by_cases hroom : xs.length + ls.length ≤ cap
      · have hin : ∀ j, j < (ls.flatMap ci).length → (w.cell? ⟨g, off + xs.length * i.size + j, none⟩).isSome = true := fun j hj => by
          rw [hz1]
          have := (h6 (xs.length + j) (by omega)).1
          rwa [← Nat.add_assoc, ← Nat.mul_one xs.length] at this
        have hrun := run_append_room_cells (P := P) w t ty e i E.under hi g off xs.length cap ⟨b, o, none⟩ ls.length c (ls.flatMap ci) (by rw [hz1]; exact hll) hnews hone hroom hin (fun j hj => by
          rw [hz1]
          have := (h6 (xs.length + j) (by omega)).2
          rwa [← Nat.add_assoc, ← Nat.mul_one xs.length] at this)
        rw [hz1, Nat.mul_one] at hrun
        refine ⟨_, _, hrun, .inr ⟨g, off, cap, by simp, h1, ?_, by simpa using hroom, h4, fun j hj => ?_, fun j hj => ?_⟩, grownBy_setCells g _ _ _, .inl rfl⟩
        · exact Nat.lt_of_lt_of_le h2 (grownBy_setCells g _ _ _).size
        · rcases Nat.lt_or_ge j xs.length with hjx | hjx
          · rw [World.cell?_setCells_out g _ _ w ⟨g, off + j, none⟩ (fun _ _ => .inl (by show off + j < off + xs.length; omega)), h5 j hjx, List.getElem_append_left hjx]
          · have hjl : j - xs.length < (ls.flatMap ci).length := by rw [List.length_append] at hj; omega
            have h9 := World.cell?_setCells_in g (ls.flatMap ci) (off + xs.length) w (fun q hq => by
              have := hin q hq
              rwa [hz1, Nat.mul_one] at this) (j - xs.length) hjl
            rw [show off + xs.length + (j - xs.length) = off + j by omega] at h9
            rw [h9, List.getElem_append_right hjx]
            simp [hci]
        · refine ⟨World.isSome_setCells g _ _ _ _ (h6 j hj).1, ?_⟩
          rw [World.frozen?_setCells]
          exact (h6 j hj).2
      · obtain ⟨v', w', hrun, ho, hg⟩ := run_append_arg_grows (P := P) w t ty e i (.int .i64 0) 1 8 E.under hi hz hz1 hz2 E.cells E.pos ⟨g, off, none⟩ xs.length cap (xs.flatMap ci) (by rw [hci]; simp) (fun j u hu => by
          rw [hci] at hu
          have e2 : (⟨g, off, none⟩ : Addr).add j = ⟨g, off + j, none⟩ := by
            unfold Addr.add
            by_cases hj : j = 0 <;> simp [hj]
          rw [e2]
          have hj : j < xs.length := by
            rcases Nat.lt_or_ge j xs.length with h | h
            · exact h
            · rw [List.getElem?_eq_none (by simpa using h)] at hu; cases hu
          rw [h5 j hj]
          rw [List.getElem?_map, List.getElem?_eq_getElem hj] at hu
          exact hu) ⟨b, o, none⟩ ls.length c (ls.flatMap ci) hll hnews (by omega) (by unfold maxLen; omega) (by omega)
        have hq : QRow w' w.heap.size v' (xs ++ ls) := QRow.of_own (e := e) (by rw [List.flatMap_append, List.length_append]; exact ho)
        refine ⟨v', w', hrun, ?_, ⟨hg.os, hg.tape, hg.output, hg.size, fun k hk _ => hg.block k hk (by simp)⟩, ?_⟩
        · rcases hq with hq | ⟨g', off', cap', e1, q1, q⟩
          · exact .inl hq
          · exact .inr ⟨g', off', cap', e1, Nat.le_trans hbase q1, q⟩
        · refine .inr fun k hk => ?_
          rcases hq with ⟨rfl, _⟩ | ⟨g', off', cap', rfl, q1, q⟩
          · cases hk
          · injection hk with hk; subst hk; exact q1
theorem wpList_app_q {P : Program} {ops : Array Oper} {rest : List Oper} {o : Oper} {a : Act} {Q : Exit → Act → World → Prop} {s x : Operand} {t e : TypeId} {ls : List Int} {A : Option Addr} {n c lo hi : Nat} (E : ElemT P t e (.int .i64 0) 1 8) (hq : QRow w base v xs) (hr : Rd w lo hi A (ls.flatMap ci)) (hn : n = ls.length) (h63 : xs.length + ls.length ≤ 1048576) (hbase : base ≤ w.heap.size)
    (hgd : Region.wanted o (yielded ops a.tmps) = true) (ho : o.op = .call { callee := .builtin .append, args := #[s, x], argTypes := #[t, t] }) (hs : a.eval s = v) (hx : a.eval x = .slice A n c)
    (h : ∀ v' w', QRow w' base v' (xs ++ ls) → w.grownBy w' v.ownBlock → (v'.ownBlock = v.ownBlock ∨ ∀ g, v'.ownBlock = some g → w.heap.size ≤ g) → wpList P ops Q rest (a.put o.dst v') w') : wpList P ops Q (o :: rest) a w :=
  wpList_step fun K hK => by
    rw [if_pos hgd]
    subst hn
    obtain ⟨v', w', hr, h2, h3, h5⟩ := QRow.app (P := P) (ty := o.type) (c := c) E hq hr h63 hbase
    unfold Oper.wp execOp
    simp only [ho, resolve, invoke, builtin, Sem.run_bind, Sem.run_pure, Result.andThen_ok, List.map_toArray, List.map_cons, List.map_nil, hs, hx, hr]
    exact hK _ _ (h v' w' h2 h3 h5)
end

end Go.Proofs.YtnaeglfochnikaaGreat

section
namespace Go.Proofs.YtnaeglfochnikaaGreat
set_option linter.unusedVariables false
set_option linter.unusedSimpArgs false
open Go.RowKit Go.Shelf

attribute [local go_sem] Oper.semAt_some
@[local go_sem] theorem binOp_geqI (t : TypeId) (k : IntKind) (a b : Int) : binOp .geq t (.int k a) (.int k b) = pure (.bool (decide (b ≤ a))) := by simp [binOp, Op.intCmp]

/-- the places from the last down to k -/
def bk (N k : Nat) : List (Fin N) := ((List.finRange N).drop k).reverse
/-- what lies below n and in the box B is kept -/
def KpB (n B : Nat) (W W' : World) : Prop := Below n W W' ∧ W'.cell? ⟨B, 0, none⟩ = W.cell? ⟨B, 0, none⟩
theorem KpB.refl (n B : Nat) (W : World) : KpB n B W W := ⟨Below.refl _ _, rfl⟩
theorem KpB.trans {n B : Nat} {X Y Z : World} (h : KpB n B X Y) (k : KpB n B Y Z) : KpB n B X Z := ⟨h.1.trans k.1, k.2.trans h.2⟩
theorem bk_top (N : Nat) : bk N N = [] := by
  unfold bk; rw [List.drop_of_length_le (by simp)]; rfl
theorem bk_len (N k : Nat) : (bk N k).length = N - k := by simp [bk]
theorem bk_succ {N k : Nat} (h : k < N) : bk N k = bk N (k + 1) ++ [⟨k, h⟩] := by
  unfold bk
  rw [List.drop_eq_getElem_cons (by simpa using h), List.reverse_cons]
  simp

set_option maxRecDepth 100000 in
set_option maxHeartbeats 2000000 in
theorem back1_in (F : Fence) (n : Nat) (hf : F.fn 93) (hro : F.round = none) (hn : 1 ≤ n) (l Bs n₀ b N cap : Nat) (vs : Fin N → Value) (hreach : N ≤ 1048576) (hb : b < n₀) (J Jx : List (Fin N) → World → Prop)
    (hv : ∀ j, (vs j).oneCell' = true)
    (hY : ∀ pre (x : Fin N) W, J pre W → pre.length < N → YieldAt F (n - 1) Tryz.prog l #[.int .i64 (x.val : Int), vs x] W fun e W' =>
      (e = .returned (.bool true) ∧ J (pre ++ [x]) W' ∧ KpB n₀ Bs W W') ∨ (e = .returned (.bool false) ∧ Jx (pre ++ [x]) W'))
    (W : World) (hBs : W.cell? ⟨Bs, 0, none⟩ = some (.slice (some ⟨b, 0, none⟩) N cap)) (hc : ∀ (j : Nat) (h : j < N), W.cell? ⟨b, j, none⟩ = some (vs ⟨j, h⟩)) (h0 : J [] W) :
    CallsIn F n Tryz.prog 93 #[.func (.yield l) #[] #[], .pointer (some ⟨Bs, 0, none⟩)] W fun e W' => (∃ v, e = .returned v) ∧
      ((∃ ys, ys = bk N 0 ∧ J ys W') ∨ (∃ pre, (∃ k, pre = bk N k) ∧ Jx pre W')) := by
  refine callsIn_of_wp Tryz.func93 rfl hf ?_ hro
  simp only [Tryz.ntmps93, List.size_toArray, List.length_cons, List.length_nil, Nat.reduceAdd, Nat.reduceSub, Array.replicate_succ, Array.replicate_zero, List.push_toArray, List.append_toArray, List.nil_append, List.cons_append]
  gi_wp2
  gi_loopw [3] (fun i wr => ∃ (k : Nat) (x : Int), k ≤ N ∧ x = (k : Int) - 1 ∧ i = .int .i64 x ∧ J (bk N k) wr ∧ KpB n₀ Bs W wr)
    (fun i _ => (intOf i + 1).toNat)
  case atStart => exact ⟨N, _, Nat.le_refl _, rfl, by go_num, by rw [bk_top]; exact h0, KpB.refl _ _ _⟩
  case round =>
    obtain ⟨k, x, hk, hx, rfl, hJs, hnx⟩ := hrel
    have hB' : wr.cell? ⟨Bs, 0, none⟩ = some (.slice (some ⟨b, 0, none⟩) N cap) := hnx.2.trans hBs
    rcases k with _ | k
    · obtain rfl : x = -1 := by omega
      clear hx
      gi_wp2
      go_end0
      exact ⟨⟨_, rfl⟩, .inl ⟨_, rfl, hJs⟩⟩
    · obtain rfl : x = (k : Int) := by omega
      clear hx
      have hlt : k < N := by omega
      have hcx : wr.cell? ⟨b, k, none⟩ = some (vs ⟨k, hlt⟩) := (hnx.1.cell (p := ⟨b, k, none⟩) hb).trans (hc k hlt)
      obtain ⟨fn, tmps, assign, body, hy, hR⟩ := hY _ ⟨k, hlt⟩ wr hJs (by rw [bk_len]; omega)
      dsimp only at hy
      generalize hvk : vs ⟨k, hlt⟩ = vk at hcx hy
      have h1 : vk.oneCell' = true := by rw [← hvk]; exact hv _
      have h00 : (0 : Int) ≤ (k : Int) := by omega
      gi_wp2
      refine hR.mono ?_
      rintro e W3 (⟨rfl, hJ3, hk3⟩ | ⟨rfl, hJx3⟩)
      · gi_wp2
        go_roundw
        case rel => exact ⟨k, _, by omega, rfl, by go_num, by rw [bk_succ hlt]; exact hJ3, hnx.trans hk3⟩
        case measure => simp [intOf]
      · gi_wp2
        refine bodyPost_ret (results_none rfl _ _ _) rfl ?_
        exact ⟨⟨_, rfl⟩, .inr ⟨_, ⟨k, (bk_succ hlt).symm⟩, hJx3⟩⟩

set_option maxHeartbeats 1000000 in
theorem back_in (F : Fence) (n : Nat) (hf : F.fn 74) (hro : F.round = none) (a : Option Addr) (len cap : Nat) (w : World) :
    CallsIn F n Tryz.prog 74 #[.slice a len cap] w fun e w' => e = .returned (.func (.func 93) #[] #[.pointer (some ⟨w.heap.size, 0, none⟩)]) ∧ w' = w.alloc (.cells #[.slice a len cap] 101) := by
  refine callsIn_of_wp Tryz.func74 rfl hf ?_ hro
  simp only [Tryz.ntmps74, List.size_toArray, List.length_cons, List.length_nil, Nat.reduceAdd, Nat.reduceSub, Array.replicate_succ, Array.replicate_zero, List.push_toArray, List.append_toArray, List.nil_append, List.cons_append]
  gi_wp2
  go_ret
  exact ⟨rfl, rfl⟩

/-- what slices.Backward hands back -/
theorem back_stops (F : Fence) (n : Nat) (hf : F.fn 93) (hro : F.round = none) (hn : 1 ≤ n) (Bs n₀ b N cap : Nat) (vs : Fin N → Value) (hreach : N ≤ 1048576) (hb : b < n₀) (hv : ∀ j, (vs j).oneCell' = true) (w : World) (hBs : Bs < w.heap.size) (hn₀ : n₀ ≤ w.heap.size)
    (h : w.cell? ⟨Bs, 0, none⟩ = some (.slice (some ⟨b, 0, none⟩) N cap)) (hc : ∀ (j : Nat) (h : j < N), w.cell? ⟨b, j, none⟩ = some (vs ⟨j, h⟩)) :
    SeqStopsK F n Tryz.prog 93 #[.pointer (some ⟨Bs, 0, none⟩)] (fun x : Fin N => #[Value.int .i64 (x.val : Int), vs x]) (KpB n₀ Bs) (fun ys => ys = bk N 0) (fun pre => ∃ k, pre = bk N k) N w := fun l J Jx W hW _ _ hY h0 =>
  back1_in F n hf hro hn l Bs n₀ b N cap vs hreach hb J Jx hv hY W ((hW.cell (p := ⟨Bs, 0, none⟩) hBs).trans h) (fun j hj => (hW.cell (p := ⟨b, j, none⟩) (Nat.lt_of_lt_of_le hb hn₀)).trans (hc j hj)) h0

end Go.Proofs.YtnaeglfochnikaaGreat
end
