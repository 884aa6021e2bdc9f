/-
  A region that draws its order, whose operations only read and whose callees may make memory of their own: walked once, in the class of all worlds in which old memory is as it was. Plain laws over any program.
  The walks of the program's partsOk: whether parts are valid. Condition: lengths fit an int64.
-/
import Derived.Test.YtgbkjfhmbchiiaaM1
import Derived.Deep.QuietTactic
import Derived.BigQuiet
import Derived.Below
import Derived.Test.YtgbkjfhmbchiiaaM4
import Derived.Test.YtgbkjfhmbchiiaaRefsW
import Derived.Deep.DeepCutAuto
import Derived.Deep.CutBlock
namespace Go.Proofs.Ytgbkjfhmbchiiaa
set_option linter.unusedVariables false
set_option linter.unusedSimpArgs false
open Go.RowKit

/-- a world in which all that lay in W is as it was -/
structure BelBy (W : World) where
  w : World
  h : Below W.heap.size W w
instance {W : World} : Inhabited (BelBy W) := ⟨⟨W, Below.refl _ W⟩⟩
theorem quiet_bel {P : Program} {id : Nat} {Q : Exit → Act → World → Prop} {a : Act} {w : World} {l : List Oper} (hm : P.follows .mixedOrders = true) (hB : Region.lexB .any l.toArray = true)
    (h : wpQuiet P l.toArray (fun w' => ∃ p : BelBy w, w' = p.w) (fun a' => ∀ w', (∃ p : BelBy w, w' = p.w) → Q .normal a' w') l a) : (Code.region id l.toArray true).wp P Q a w :=
  wp_region_quiet (C := fun w' => ∃ p : BelBy w, w' = p.w) hm hB ⟨⟨w.drew, (Below.refl _ w).drew⟩, rfl⟩ (by simpa using h)
theorem bel_call {P : Program} {f : FuncId} {args : Array Value} {W : World} {p : BelBy W} {v : Value} (h : Calls P f args p.w fun e w' => e = .returned v ∧ Below p.w.heap.size p.w w') : Calls P f args p.w fun e w'' => e = .returned v ∧ ∃ q : BelBy W, w'' = q.w :=
  h.mono fun _ w' ⟨he, hb⟩ => ⟨he, ⟨w', p.h.trans (hb.mono p.h.size)⟩, rfl⟩
theorem bel_same {P : Program} {f : FuncId} {args : Array Value} {W : World} {p : BelBy W} {v : Value} (h : Calls P f args p.w fun e w' => e = .returned v ∧ p.w = w') : Calls P f args p.w fun e w'' => e = .returned v ∧ ∃ q : BelBy W, w'' = q.w :=
  h.mono fun _ w' ⟨he, hb⟩ => ⟨he, p, hb.symm⟩
theorem BelBy.cell {W : World} (p : BelBy W) {q : Addr} {v : Value} (h : W.cell? q = some v) : p.w.cell? q = some v := (p.h.cell (World.block_lt_of_cell? _ _ h)).trans h

end Go.Proofs.Ytgbkjfhmbchiiaa

namespace Go.Proofs.Ytgbkjfhmbchiiaa
set_option linter.unusedVariables false
set_option linter.unusedSimpArgs false
open Go.RowKit

theorem rdL_upds {w : World} {lo hi : Nat} : ∀ {xs : List Upd} {vs : List Value}, D.rdL w lo hi (xs.flatMap fUpdate) vs → vs = xs.flatMap cu
  | [], vs, h => by simp only [List.flatMap_nil] at h; unfold D.rdL at h; subst h; rfl
  | x :: xs, vs, h => by
    rw [List.flatMap_cons] at h
    unfold fUpdate at h
    simp only [List.cons_append, List.nil_append] at h
    unfold D.rdL at h
    obtain ⟨v0, r0, rfl, h0, h⟩ := h
    unfold D.rdL at h
    obtain ⟨v1, r1, rfl, h1, h⟩ := h
    unfold D.rdL at h
    obtain ⟨v2, r2, rfl, h2, h⟩ := h
    rw [rdL_upds (xs := xs) h, h0.int_inv, h1.int_inv, h2.int_inv]; rfl
theorem D.rd.upds {w : World} {lo hi n c : Nat} {A : Option Addr} {xs : List Upd} (h : D.rd w lo hi (dUpdates xs) (.slice A n c)) : Fl cu w lo hi A n xs := by
  have hn := h.len.1
  unfold dUpdates D.rd at h
  obtain ⟨A', c', vs, e, g2, g3, g4, g5, g6⟩ := h
  injection e with e1 e2 e3
  subst e1
  rw [rdL_upds g6] at g5
  exact ⟨hn.symm, g5⟩
theorem part_no1 {ps : List PartD} {k : Nat} (h : k < ps.length) (g : inR ps[k].shard 0 2 = false) : partsB ps = false := by
  unfold partsB; rw [allTo_no h (by rw [part_at h, g]; rfl)]; rfl
theorem part_no2 {ps : List PartD} {k : Nat} (h : k < ps.length) (g : updsB ps[k].us = false) : partsB ps = false := by
  unfold partsB; rw [allTo_no h (by rw [part_at h, g]; simp)]; rfl
theorem part_no3 {ps : List PartD} {k : Nat} (h : k + 1 < ps.length) (g : ps[k + 1].shard ≤ ps[k].shard) : partsB ps = false := by
  unfold partsB
  rw [allTo_no h (by
    rw [part_at h, Nat.add_sub_cancel, List.getD_eq_getElem?_getD, List.getElem?_eq_getElem (by omega : k < ps.length), Option.getD_some, decide_eq_false (show ¬ ps[k].shard < ps[k + 1].shard by omega)]
    simp)]; rfl
theorem part_yes0 {ps : List PartD} (h : 0 < ps.length) (g1 : inR ps[0].shard 0 2 = true) (g2 : updsB ps[0].us = true) : partAt ps 0 = true := by rw [part_at h, g1, g2]; rfl
theorem part_yes {ps : List PartD} {k : Nat} (h : k + 1 < ps.length) (g1 : inR ps[k + 1].shard 0 2 = true) (g2 : updsB ps[k + 1].us = true) (g : ps[k].shard < ps[k + 1].shard) : partAt ps (k + 1) = true := by
  rw [part_at h, g1, g2, Nat.add_sub_cancel, List.getD_eq_getElem?_getD, List.getElem?_eq_getElem (by omega : k < ps.length)]
  simpa using g

set_option maxHeartbeats 3200000 in
set_option maxRecDepth 100000 in
theorem partsOk_any (ps : List PartD) (A : Option Addr) (n c : Nat) (w : World) (lo hi : Nat) (hh : hi ≤ w.heap.size) (h : D.rd w lo hi (dParts ps) (.slice A n c)) :
    Calls Try.prog 66 #[.slice A n c] w fun e w' => e = .returned (.bool (partsB ps)) ∧ Below w.heap.size w w' := by
  have HI := Lib.hid h
  have HN := Lib.hid h.len.1
  have hn63 : n ≤ 9223372036854775807 := by have := h.len; omega
  clear h
  go_enter Try.func66, Try.ntmps66
  go_wp2_with fail
  go_loopw [7] (fun i wr => ∃ k : Nat, k ≤ n ∧ i = .int .i64 k ∧ Hid (allTo (partAt ps) k = true) ∧ Below w.heap.size w wr) (fun i _ => n - (intOf i).toNat)
  case atStart => exact ⟨0, Nat.zero_le _, rfl, rfl, Below.refl _ _⟩
  case round =>
    obtain ⟨k, hk, rfl, HT, hb⟩ := hrel
    have HB := Lib.hid hb
    have hwsz := hb.size
    clear hb
    by_cases hlt : k < n
    · obtain ⟨b, o, hl, A1, n1, c1, rfl, _, hbh, hc0, hc1, ⟨hn1, hm1, hr1⟩⟩ := rd_Part (HI.out.below HB.out hh) hlt
      have hbw : b < wr.heap.size := by omega
      have hhr : hi ≤ wr.heap.size := by omega
      have HB2 : Hid (Below w.heap.size w (wr.alloc (.cells #[.int .i64 ps[k].shard, .slice A1 n1 c1] 49))) := Lib.hid (HB.out.alloc hwsz _)
      have HU : Hid (Fl cu (wr.alloc (.cells #[.int .i64 ps[k].shard, .slice A1 n1 c1] 49)) lo hi A1 n1 ps[k].us) := Lib.hid (hr1.alloc hhr _).upds
      have HQ : Hid (∀ (v : Value) (q : Addr), wr.cell? q = some v → (wr.alloc (.cells #[.int .i64 ps[k].shard, .slice A1 n1 c1] 49)).cell? q = some v) := fun v q he => (World.cell?_alloc_lt wr _ q (World.block_lt_of_cell? _ _ he)).trans he
      have hq0 : ∀ p : BelBy (wr.alloc (.cells #[.int .i64 ps[k].shard, .slice A1 n1 c1] 49)), p.w.cell? ⟨wr.heap.size, 0, none⟩ = some (.int .i64 ps[k].shard) := fun p => p.cell (cell_of_row _ _ 0 _ _ _ (heap_alloc_new wr _))
      have hq1 : ∀ p : BelBy (wr.alloc (.cells #[.int .i64 ps[k].shard, .slice A1 n1 c1] 49)), p.w.cell? ⟨wr.heap.size, 1, none⟩ = some (.slice A1 n1 c1) := fun p => p.cell (cell_of_row _ _ 1 _ _ _ (heap_alloc_new wr _))
      have hh2 : hi ≤ (wr.alloc (.cells #[.int .i64 ps[k].shard, .slice A1 n1 c1] 49)).heap.size := by simp; omega
      clear hr1
      rcases g1 : inR ps[k].shard 0 2 with _ | _
      · have hno := Lib.hid (part_no1 hl g1)
        go_wp2_with fail
        refine quiet_bel (by kernel_rfl) (by kernel_rfl) ?_
        repeat (go_big_quiet_step (first | (go_at_call 39; exact bel_same (inRange_any _ _ _ _)) | (go_at_call 81; exact bel_call (implUpds_any A1 n1 c1 ps[k].us _ lo hi (Nat.le_trans hh2 (BelBy.h _).size) (by omega) (Fl.below HU.out (BelBy.h _) hh2)))))
        refine wpQuiet_nil ?_
        intro _ hw'
        obtain ⟨⟨wz, hbz⟩, rfl⟩ := hw'
        have HBZ := Lib.hid (bel_tr HB2.out (Nat.le_refl _) hbz)
        clear hbz hq0 hq1
        go_wp2_with fail
        go_ret
        exact ⟨ret_bool hno.out.symm, HBZ.out⟩
      · rcases g2 : updsB ps[k].us with _ | _
        · have hno := Lib.hid (part_no2 hl g2)
          go_wp2_with fail
          refine quiet_bel (by kernel_rfl) (by kernel_rfl) ?_
          repeat (go_big_quiet_step (first | (go_at_call 39; exact bel_same (inRange_any _ _ _ _)) | (go_at_call 81; exact bel_call (implUpds_any A1 n1 c1 ps[k].us _ lo hi (Nat.le_trans hh2 (BelBy.h _).size) (by omega) (Fl.below HU.out (BelBy.h _) hh2)))))
          refine wpQuiet_nil ?_
          intro _ hw'
          obtain ⟨⟨wz, hbz⟩, rfl⟩ := hw'
          have HBZ := Lib.hid (bel_tr HB2.out (Nat.le_refl _) hbz)
          clear hbz hq0 hq1
          go_wp2_with fail
          go_ret
          exact ⟨ret_bool hno.out.symm, HBZ.out⟩
        · rcases k with _ | k
          · have hyes := Lib.hid (part_yes0 hl g1 g2)
            simp only [Nat.zero_mul, Nat.add_zero] at hc0 hc1
            go_wp2_with fail
            refine quiet_bel (by kernel_rfl) (by kernel_rfl) ?_
            repeat (go_big_quiet_step (first | (go_at_call 39; exact bel_same (inRange_any _ _ _ _)) | (go_at_call 81; exact bel_call (implUpds_any A1 n1 c1 ps[0].us _ lo hi (Nat.le_trans hh2 (BelBy.h _).size) (by omega) (Fl.below HU.out (BelBy.h _) hh2)))))
            refine wpQuiet_nil ?_
            intro _ hw'
            obtain ⟨⟨wz, hbz⟩, rfl⟩ := hw'
            have HBZ := Lib.hid (bel_tr HB2.out (Nat.le_refl _) hbz)
            clear hbz hq0 hq1
            go_wp2_with fail
            exact ⟨⟨1, by omega, by go_num, allTo_succ HT.out hyes.out, HBZ.out⟩, by simp [intOf]; omega⟩
          · obtain ⟨b1, o1, hl1, B1, m1, d1, he1, _, _, hv0, -, -⟩ := rd_Part (HI.out.below HB.out hh) (k := k) (by omega)
            injection he1 with he1
            injection he1 with ea eb ec
            subst ea eb
            have hwk : IntKind.i64.wrap (k : Int) = (k : Int) := IntWalk.i64_in _ (by omega)
            have hkn1 : (k : Int) < (n : Int) := by omega
            have hkn2 : k < n := by omega
            have hq2 : ∀ p : BelBy (wr.alloc (.cells #[.int .i64 ps[k + 1].shard, .slice A1 n1 c1] 49)), p.w.cell? ⟨b, o + k * 2, none⟩ = some (.int .i64 ps[k].shard) := fun p => p.cell (HQ.out _ _ hv0)
            by_cases g6 : ps[k + 1].shard ≤ ps[k].shard
            · have hno := Lib.hid (part_no3 hl g6)
              go_wp2_with fail
              refine quiet_bel (by kernel_rfl) (by kernel_rfl) ?_
              repeat (go_big_quiet_step (first | (go_at_call 39; exact bel_same (inRange_any _ _ _ _)) | (go_at_call 81; exact bel_call (implUpds_any A1 n1 c1 ps[k + 1].us _ lo hi (Nat.le_trans hh2 (BelBy.h _).size) (by omega) (Fl.below HU.out (BelBy.h _) hh2)))))
              refine wpQuiet_nil ?_
              intro _ hw'
              obtain ⟨⟨wz, hbz⟩, rfl⟩ := hw'
              have HBZ := Lib.hid (bel_tr HB2.out (Nat.le_refl _) hbz)
              clear hbz hq0 hq1 hq2
              go_wp2_with fail
              go_ret
              exact ⟨ret_bool hno.out.symm, HBZ.out⟩
            · have hyes := Lib.hid (part_yes hl g1 g2 (by omega))
              have hd6 : decide (ps[k + 1].shard ≤ ps[k].shard) = false := decide_eq_false g6
              go_wp2_with fail
              refine quiet_bel (by kernel_rfl) (by kernel_rfl) ?_
              repeat (go_big_quiet_step (first | (go_at_call 39; exact bel_same (inRange_any _ _ _ _)) | (go_at_call 81; exact bel_call (implUpds_any A1 n1 c1 ps[k + 1].us _ lo hi (Nat.le_trans hh2 (BelBy.h _).size) (by omega) (Fl.below HU.out (BelBy.h _) hh2)))))
              refine wpQuiet_nil ?_
              intro _ hw'
              obtain ⟨⟨wz, hbz⟩, rfl⟩ := hw'
              have HBZ := Lib.hid (bel_tr HB2.out (Nat.le_refl _) hbz)
              clear hbz hq0 hq1 hq2
              go_wp2_with fail
              exact ⟨⟨k + 1 + 1, by omega, by go_num, allTo_succ HT.out hyes.out, HBZ.out⟩, by simp [intOf]; omega⟩
    · have hkn : k = n := by omega
      subst hkn
      have hres : Hid (partsB ps = decide (0 < k)) := by
        show _ = _
        unfold partsB
        rw [← HN.out, HT.out]; rfl
      go_wp2_with fail
      go_ret
      exact ⟨ret_bool (by first | (rw [hres.out]; done) | (rw [hres.out]; simp)), HB.out⟩

end Go.Proofs.Ytgbkjfhmbchiiaa
