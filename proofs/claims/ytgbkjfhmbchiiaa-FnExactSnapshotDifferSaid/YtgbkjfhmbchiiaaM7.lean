/-
  A region that draws its order, whose operations only read and whose callees may make memory of their own: walked once, in the class of all worlds in which old memory is as it was. Plain laws over any program.
  The walks of the program's partsOk: whether parts are valid. Condition: lengths fit an int64.
  A send into a buffer with room, and a receive, as operations of a region: the kit's walk around them, the machine's own step at them. Plain laws over any program.
  A map of the call's own with integer keys and elements of any kind: block b reads as the function C. Plain laws over any program: made, kept, asked, written, deleted.
-/
import Derived.Test.YtgbkjfhmbchiiaaM1
import Derived.Deep.QuietTactic
import Derived.BigQuiet
import Derived.Below
import Derived.Test.YtgbkjfhmbchiiaaM4
import Derived.Test.YtgbkjfhmbchiiaaRefsW
import Derived.Deep.DeepCutAuto
import Derived.Deep.CutBlock
import Derived.Conc.LoneCalls
import Derived.Maps.OwnSet
import Derived.Maps.Views
namespace Go.Proofs.Ytgbkjfhmbchiiaa
set_option linter.unusedVariables false
set_option linter.unusedSimpArgs false
open Go.RowKit

/-- a world in which all that lay in W is as it was -/
structure BelBy (W : World) where
  w : World
  h : Below W.heap.size W w
instance {W : World} : Inhabited (BelBy W) := ⟨⟨W, Below.refl _ W⟩⟩
theorem quiet_bel {P : Program} {id : Nat} {Q : Exit → Act → World → Prop} {a : Act} {w : World} {l : List Oper} (hm : P.follows .mixedOrders = true) (hB : Region.lexB .any l.toArray = true)
    (h : wpQuiet P l.toArray (fun w' => ∃ p : BelBy w, w' = p.w) (fun a' => ∀ w', (∃ p : BelBy w, w' = p.w) → Q .normal a' w') l a) : (Code.region id l.toArray true).wp P Q a w :=
  wp_region_quiet (C := fun w' => ∃ p : BelBy w, w' = p.w) hm hB ⟨⟨w.drew, (Below.refl _ w).drew⟩, rfl⟩ (by simpa using h)
theorem bel_call {P : Program} {f : FuncId} {args : Array Value} {W : World} {p : BelBy W} {v : Value} (h : Calls P f args p.w fun e w' => e = .returned v ∧ Below p.w.heap.size p.w w') : Calls P f args p.w fun e w'' => e = .returned v ∧ ∃ q : BelBy W, w'' = q.w :=
  h.mono fun _ w' ⟨he, hb⟩ => ⟨he, ⟨w', p.h.trans (hb.mono p.h.size)⟩, rfl⟩
theorem bel_same {P : Program} {f : FuncId} {args : Array Value} {W : World} {p : BelBy W} {v : Value} (h : Calls P f args p.w fun e w' => e = .returned v ∧ p.w = w') : Calls P f args p.w fun e w'' => e = .returned v ∧ ∃ q : BelBy W, w'' = q.w :=
  h.mono fun _ w' ⟨he, hb⟩ => ⟨he, p, hb.symm⟩
theorem BelBy.cell {W : World} (p : BelBy W) {q : Addr} {v : Value} (h : W.cell? q = some v) : p.w.cell? q = some v := (p.h.cell (World.block_lt_of_cell? _ _ h)).trans h

end Go.Proofs.Ytgbkjfhmbchiiaa

namespace Go.Proofs.Ytgbkjfhmbchiiaa
set_option linter.unusedVariables false
set_option linter.unusedSimpArgs false
open Go.RowKit

theorem rdL_upds {w : World} {lo hi : Nat} : ∀ {xs : List Upd} {vs : List Value}, D.rdL w lo hi (xs.flatMap fUpdate) vs → vs = xs.flatMap cu
  | [], vs, h => by simp only [List.flatMap_nil] at h; unfold D.rdL at h; subst h; rfl
  | x :: xs, vs, h => by
    rw [List.flatMap_cons] at h
    unfold fUpdate at h
    simp only [List.cons_append, List.nil_append] at h
    unfold D.rdL at h
    obtain ⟨v0, r0, rfl, h0, h⟩ := h
    unfold D.rdL at h
    obtain ⟨v1, r1, rfl, h1, h⟩ := h
    unfold D.rdL at h
    obtain ⟨v2, r2, rfl, h2, h⟩ := h
    rw [rdL_upds (xs := xs) h, h0.int_inv, h1.int_inv, h2.int_inv]; rfl
theorem D.rd.upds {w : World} {lo hi n c : Nat} {A : Option Addr} {xs : List Upd} (h : D.rd w lo hi (dUpdates xs) (.slice A n c)) : Fl cu w lo hi A n xs := by
  have hn := h.len.1
  unfold dUpdates D.rd at h
  obtain ⟨A', c', vs, e, g2, g3, g4, g5, g6⟩ := h
  injection e with e1 e2 e3
  subst e1
  rw [rdL_upds g6] at g5
  exact ⟨hn.symm, g5⟩
theorem part_no1 {ps : List PartD} {k : Nat} (h : k < ps.length) (g : inR ps[k].shard 0 2 = false) : partsB ps = false := by
  unfold partsB; rw [allTo_no h (by rw [part_at h, g]; rfl)]; rfl
theorem part_no2 {ps : List PartD} {k : Nat} (h : k < ps.length) (g : updsB ps[k].us = false) : partsB ps = false := by
  unfold partsB; rw [allTo_no h (by rw [part_at h, g]; simp)]; rfl
theorem part_no3 {ps : List PartD} {k : Nat} (h : k + 1 < ps.length) (g : ps[k + 1].shard ≤ ps[k].shard) : partsB ps = false := by
  unfold partsB
  rw [allTo_no h (by
    rw [part_at h, Nat.add_sub_cancel, List.getD_eq_getElem?_getD, List.getElem?_eq_getElem (by omega : k < ps.length), Option.getD_some, decide_eq_false (show ¬ ps[k].shard < ps[k + 1].shard by omega)]
    simp)]; rfl
theorem part_yes0 {ps : List PartD} (h : 0 < ps.length) (g1 : inR ps[0].shard 0 2 = true) (g2 : updsB ps[0].us = true) : partAt ps 0 = true := by rw [part_at h, g1, g2]; rfl
theorem part_yes {ps : List PartD} {k : Nat} (h : k + 1 < ps.length) (g1 : inR ps[k + 1].shard 0 2 = true) (g2 : updsB ps[k + 1].us = true) (g : ps[k].shard < ps[k + 1].shard) : partAt ps (k + 1) = true := by
  rw [part_at h, g1, g2, Nat.add_sub_cancel, List.getD_eq_getElem?_getD, List.getElem?_eq_getElem (by omega : k < ps.length)]
  simpa using g

set_option maxHeartbeats 3200000 in
set_option maxRecDepth 100000 in
theorem partsOk_any (ps : List PartD) (A : Option Addr) (n c : Nat) (w : World) (lo hi : Nat) (hh : hi ≤ w.heap.size) (h : D.rd w lo hi (dParts ps) (.slice A n c)) :
    Calls Try.prog 66 #[.slice A n c] w fun e w' => e = .returned (.bool (partsB ps)) ∧ Below w.heap.size w w' := by
  have HI := Lib.hid h
  have HN := Lib.hid h.len.1
  have hn63 : n ≤ 9223372036854775807 := by have := h.len; omega
  clear h
  go_enter Try.func66, Try.ntmps66
  go_wp2_with fail
  go_loopw [7] (fun i wr => ∃ k : Nat, k ≤ n ∧ i = .int .i64 k ∧ Hid (allTo (partAt ps) k = true) ∧ Below w.heap.size w wr) (fun i _ => n - (intOf i).toNat)
  case atStart => exact ⟨0, Nat.zero_le _, rfl, rfl, Below.refl _ _⟩
  case round =>
    obtain ⟨k, hk, rfl, HT, hb⟩ := hrel
    have HB := Lib.hid hb
    have hwsz := hb.size
    clear hb
    by_cases hlt : k < n
    · obtain ⟨b, o, hl, A1, n1, c1, rfl, _, hbh, hc0, hc1, ⟨hn1, hm1, hr1⟩⟩ := rd_Part (HI.out.below HB.out hh) hlt
      have hbw : b < wr.heap.size := by omega
      have hhr : hi ≤ wr.heap.size := by omega
      have HB2 : Hid (Below w.heap.size w (wr.alloc (.cells #[.int .i64 ps[k].shard, .slice A1 n1 c1] 49))) := Lib.hid (HB.out.alloc hwsz _)
      have HU : Hid (Fl cu (wr.alloc (.cells #[.int .i64 ps[k].shard, .slice A1 n1 c1] 49)) lo hi A1 n1 ps[k].us) := Lib.hid (hr1.alloc hhr _).upds
      have HQ : Hid (∀ (v : Value) (q : Addr), wr.cell? q = some v → (wr.alloc (.cells #[.int .i64 ps[k].shard, .slice A1 n1 c1] 49)).cell? q = some v) := fun v q he => (World.cell?_alloc_lt wr _ q (World.block_lt_of_cell? _ _ he)).trans he
      have hq0 : ∀ p : BelBy (wr.alloc (.cells #[.int .i64 ps[k].shard, .slice A1 n1 c1] 49)), p.w.cell? ⟨wr.heap.size, 0, none⟩ = some (.int .i64 ps[k].shard) := fun p => p.cell (cell_of_row _ _ 0 _ _ _ (heap_alloc_new wr _))
      have hq1 : ∀ p : BelBy (wr.alloc (.cells #[.int .i64 ps[k].shard, .slice A1 n1 c1] 49)), p.w.cell? ⟨wr.heap.size, 1, none⟩ = some (.slice A1 n1 c1) := fun p => p.cell (cell_of_row _ _ 1 _ _ _ (heap_alloc_new wr _))
      have hh2 : hi ≤ (wr.alloc (.cells #[.int .i64 ps[k].shard, .slice A1 n1 c1] 49)).heap.size := by simp; omega
      clear hr1
      rcases g1 : inR ps[k].shard 0 2 with _ | _
      · have hno := Lib.hid (part_no1 hl g1)
        go_wp2_with fail
        refine quiet_bel (by kernel_rfl) (by kernel_rfl) ?_
        repeat (go_big_quiet_step (first | (go_at_call 39; exact bel_same (inRange_any _ _ _ _)) | (go_at_call 81; exact bel_call (implUpds_any A1 n1 c1 ps[k].us _ lo hi (Nat.le_trans hh2 (BelBy.h _).size) (by omega) (Fl.below HU.out (BelBy.h _) hh2)))))
        refine wpQuiet_nil ?_
        intro _ hw'
        obtain ⟨⟨wz, hbz⟩, rfl⟩ := hw'
        have HBZ := Lib.hid (bel_tr HB2.out (Nat.le_refl _) hbz)
        clear hbz hq0 hq1
        go_wp2_with fail
        go_ret
        exact ⟨ret_bool hno.out.symm, HBZ.out⟩
      · rcases g2 : updsB ps[k].us with _ | _
        · have hno := Lib.hid (part_no2 hl g2)
          go_wp2_with fail
          refine quiet_bel (by kernel_rfl) (by kernel_rfl) ?_
          repeat (go_big_quiet_step (first | (go_at_call 39; exact bel_same (inRange_any _ _ _ _)) | (go_at_call 81; exact bel_call (implUpds_any A1 n1 c1 ps[k].us _ lo hi (Nat.le_trans hh2 (BelBy.h _).size) (by omega) (Fl.below HU.out (BelBy.h _) hh2)))))
          refine wpQuiet_nil ?_
          intro _ hw'
          obtain ⟨⟨wz, hbz⟩, rfl⟩ := hw'
          have HBZ := Lib.hid (bel_tr HB2.out (Nat.le_refl _) hbz)
          clear hbz hq0 hq1
          go_wp2_with fail
          go_ret
          exact ⟨ret_bool hno.out.symm, HBZ.out⟩
        · rcases k with _ | k
          · have hyes := Lib.hid (part_yes0 hl g1 g2)
            simp only [Nat.zero_mul, Nat.add_zero] at hc0 hc1
            go_wp2_with fail
            refine quiet_bel (by kernel_rfl) (by kernel_rfl) ?_
            repeat (go_big_quiet_step (first | (go_at_call 39; exact bel_same (inRange_any _ _ _ _)) | (go_at_call 81; exact bel_call (implUpds_any A1 n1 c1 ps[0].us _ lo hi (Nat.le_trans hh2 (BelBy.h _).size) (by omega) (Fl.below HU.out (BelBy.h _) hh2)))))
            refine wpQuiet_nil ?_
            intro _ hw'
            obtain ⟨⟨wz, hbz⟩, rfl⟩ := hw'
            have HBZ := Lib.hid (bel_tr HB2.out (Nat.le_refl _) hbz)
            clear hbz hq0 hq1
            go_wp2_with fail
            exact ⟨⟨1, by omega, by go_num, allTo_succ HT.out hyes.out, HBZ.out⟩, by simp [intOf]; omega⟩
          · obtain ⟨b1, o1, hl1, B1, m1, d1, he1, _, _, hv0, -, -⟩ := rd_Part (HI.out.below HB.out hh) (k := k) (by omega)
            injection he1 with he1
            injection he1 with ea eb ec
            subst ea eb
            have hwk : IntKind.i64.wrap (k : Int) = (k : Int) := IntWalk.i64_in _ (by omega)
            have hkn1 : (k : Int) < (n : Int) := by omega
            have hkn2 : k < n := by omega
            have hq2 : ∀ p : BelBy (wr.alloc (.cells #[.int .i64 ps[k + 1].shard, .slice A1 n1 c1] 49)), p.w.cell? ⟨b, o + k * 2, none⟩ = some (.int .i64 ps[k].shard) := fun p => p.cell (HQ.out _ _ hv0)
            by_cases g6 : ps[k + 1].shard ≤ ps[k].shard
            · have hno := Lib.hid (part_no3 hl g6)
              go_wp2_with fail
              refine quiet_bel (by kernel_rfl) (by kernel_rfl) ?_
              repeat (go_big_quiet_step (first | (go_at_call 39; exact bel_same (inRange_any _ _ _ _)) | (go_at_call 81; exact bel_call (implUpds_any A1 n1 c1 ps[k + 1].us _ lo hi (Nat.le_trans hh2 (BelBy.h _).size) (by omega) (Fl.below HU.out (BelBy.h _) hh2)))))
              refine wpQuiet_nil ?_
              intro _ hw'
              obtain ⟨⟨wz, hbz⟩, rfl⟩ := hw'
              have HBZ := Lib.hid (bel_tr HB2.out (Nat.le_refl _) hbz)
              clear hbz hq0 hq1 hq2
              go_wp2_with fail
              go_ret
              exact ⟨ret_bool hno.out.symm, HBZ.out⟩
            · have hyes := Lib.hid (part_yes hl g1 g2 (by omega))
              have hd6 : decide (ps[k + 1].shard ≤ ps[k].shard) = false := decide_eq_false g6
              go_wp2_with fail
              refine quiet_bel (by kernel_rfl) (by kernel_rfl) ?_
              repeat (go_big_quiet_step (first | (go_at_call 39; exact bel_same (inRange_any _ _ _ _)) | (go_at_call 81; exact bel_call (implUpds_any A1 n1 c1 ps[k + 1].us _ lo hi (Nat.le_trans hh2 (BelBy.h _).size) (by omega) (Fl.below HU.out (BelBy.h _) hh2)))))
              refine wpQuiet_nil ?_
              intro _ hw'
              obtain ⟨⟨wz, hbz⟩, rfl⟩ := hw'
              have HBZ := Lib.hid (bel_tr HB2.out (Nat.le_refl _) hbz)
              clear hbz hq0 hq1 hq2
              go_wp2_with fail
              exact ⟨⟨k + 1 + 1, by omega, by go_num, allTo_succ HT.out hyes.out, HBZ.out⟩, by simp [intOf]; omega⟩
    · have hkn : k = n := by omega
      subst hkn
      have hres : Hid (partsB ps = decide (0 < k)) := by
        show _ = _
        unfold partsB
        rw [← HN.out, HT.out]; rfl
      go_wp2_with fail
      go_ret
      exact ⟨ret_bool (by first | (rw [hres.out]; done) | (rw [hres.out]; simp)), HB.out⟩

end Go.Proofs.Ytgbkjfhmbchiiaa

namespace Go.Proofs.Ytgbkjfhmbchiiaa
set_option linter.unusedVariables false
set_option linter.unusedSimpArgs false
open Go.RowKit Go.Conc

/-- from these operations of a region on, the machine comes to an exit of which Q holds -/
def WpO (P : Program) (ops : Array Oper) (Q : Exit → Act → World → Prop) (l : List Nat) (a : Act) (w : World) : Prop :=
  ∀ (b : Frame) (k : List Item) (cs : List Frame), ∃ e a' w', Q e a' w' ∧ Arrives P (lone (b.at a (.inRegion ops l :: k)) cs w) b k cs e a' w'
section
variable {P : Program} {ops : Array Oper} {Q : Exit → Act → World → Prop} {a : Act} {w w' : World} {i : Nat} {rest : List Nat} {o : Oper} {c cap s r : Nat} {buf : Array Value} {z v : Value} {tm closed : Bool}
theorem WpO.of {l : List Nat} (h : wpOps P ops Q l a w) : WpO P ops Q l a w := wp_ops l a w h
theorem WpO.region {id : Nat} (h : WpO P ops Q (List.range ops.size) a w) : (Code.region id ops false).wp P Q a w :=
  fun b k cs => let ⟨e, a', w', q, r⟩ := h b k cs; ⟨e, a', w', q, .of_steps (.one step_region) r⟩
theorem WpO.nil (h : Q .normal a w) : WpO P ops Q [] a w := fun b k cs => ⟨.normal, a, w, h, .one step_region_end⟩
theorem WpO.value (ho : ops[i]? = some o) (hw : Region.wanted o (yielded ops a.tmps) = true) (hr : (execOp a.eval o).run P w = .ok (.value v) w') (h : WpO P ops Q rest (a.put o.dst v) w') : WpO P ops Q (i :: rest) a w := by
  intro b k cs
  obtain ⟨e, a', w'', hq, harr⟩ := h b k cs
  refine ⟨e, a', w'', hq, .of_steps (.one (step_lone_go ?_)) harr⟩
  have hg := stepG_op (P := P) (b := b) (k := k) (cs := cs) (w := w) (rest := rest) ho hw
  have hfin : (b.at a (.inRegion ops (i :: rest) :: k)).finish v = b.at (a.put o.dst v) (.inRegion ops rest :: k) := by rw [Frame.finish_at, ho]; rfl
  rw [hg, ← hfin]; simp [stepG.apply, hr]
theorem stepG_comm_any {main : Bool} {b : Frame} {k : List Item} {cs : List Frame} {cases : Array CommCase} {blocking : Bool} {shape : CommShape} (ho : ops[i]? = some o) (hw : Region.wanted o (yielded ops a.tmps) = true)
    (hr : (execOp a.eval o).run P w = .ok (.comm cases blocking shape) w') :
    ∃ es, stepG P main (G (b.at a (.inRegion ops (i :: rest) :: k)) cs) w = .comm (G (b.at a (.inRegion ops (i :: rest) :: k)) cs) cases blocking shape w' es := by
  have hb : (stepG P main (G (b.at a (.inRegion ops (i :: rest) :: k)) cs) w).bare = .comm (G (b.at a (.inRegion ops (i :: rest) :: k)) cs) cases blocking shape w' := by
    rw [stepG_oper ho hw]
    simp [stepG.apply, hr, G, Frame.at]
  generalize stepG P main (G (b.at a (.inRegion ops (i :: rest) :: k)) cs) w = s at hb ⊢
  cases s <;> simp at hb
  obtain ⟨rfl, rfl, rfl, rfl, rfl⟩ := hb
  exact ⟨_, rfl⟩
theorem WpO.send (ho : ops[i]? = some o) (hw : Region.wanted o (yielded ops a.tmps) = true) (hr : (execOp a.eval o).run P w = .ok (.comm #[scase c v z] true .send) w) (hc : w.heap[c]? = some (.chan cap buf false s r tm)) (hroom : buf.size < cap)
    (h : WpO P ops Q rest (a.put o.dst undef) (w.setChan c cap (buf.push v) false (s + 1) r tm)) : WpO P ops Q (i :: rest) a w := by
  intro b k cs
  obtain ⟨es, he⟩ := stepG_comm_any (P := P) (main := true) (b := b) (k := k) (cs := cs) (rest := rest) ho hw hr
  obtain ⟨e, a', w', hq, harr⟩ := h b k cs
  refine ⟨e, a', w', hq, .of_steps (.one ?_) harr⟩
  have h1 := step_lone_send_room he hc hroom
  rw [Frame.finish_at, ho] at h1
  exact h1
theorem WpO.recv (ok : Bool) (ho : ops[i]? = some o) (hw : Region.wanted o (yielded ops a.tmps) = true) (hr : (execOp a.eval o).run P w = .ok (.comm #[rcase c z] true (.recv ok)) w) (hc : w.heap[c]? = some (.chan cap buf closed s r tm)) (hsome : 0 < buf.size)
    (h : WpO P ops Q rest (a.put o.dst (got ok (buf.getD 0 undef) true)) (w.setChan c cap (buf.extract 1 buf.size) closed s (r + 1) tm)) : WpO P ops Q (i :: rest) a w := by
  intro b k cs
  obtain ⟨es, he⟩ := stepG_comm_any (P := P) (main := true) (b := b) (k := k) (cs := cs) (rest := rest) ho hw hr
  obtain ⟨e, a', w', hq, harr⟩ := h b k cs
  refine ⟨e, a', w', hq, .of_steps (.one ?_) harr⟩
  have h1 := step_lone_recv_buf ok he hc hsome
  rw [Frame.finish_at, ho] at h1
  exact h1
theorem WpO.shut (ok : Bool) (ho : ops[i]? = some o) (hw : Region.wanted o (yielded ops a.tmps) = true) (hr : (execOp a.eval o).run P w = .ok (.comm #[rcase c z] true (.recv ok)) w) (hc : w.heap[c]? = some (.chan cap #[] true s r tm))
    (h : WpO P ops Q rest (a.put o.dst (got ok z false)) w) : WpO P ops Q (i :: rest) a w := by
  intro b k cs
  obtain ⟨es, he⟩ := stepG_comm_any (P := P) (main := true) (b := b) (k := k) (cs := cs) (rest := rest) ho hw hr
  obtain ⟨e, a', w', hq, harr⟩ := h b k cs
  refine ⟨e, a', w', hq, .of_steps (.one ?_) harr⟩
  have h1 := step_lone_recv_shut ok he hc
  rw [Frame.finish_at, ho] at h1
  exact h1
end

/-- what else lies in memory is as it was -/
theorem chan_block {w : World} {c cap : Nat} {buf : Array Value} {cl : Bool} {s r : Nat} {tm : Bool} (h : c < w.heap.size) : (w.setChan c cap buf cl s r tm).heap[c]? = some (.chan cap buf cl s r tm) := by simp [World.setChan, h]
theorem chan_grown (w : World) (c cap : Nat) (buf : Array Value) (cl : Bool) (s r : Nat) (tm : Bool) : w.grownBy (w.setChan c cap buf cl s r tm) (some c) :=
  ⟨rfl, rfl, rfl, by simp [World.setChan], fun i _ hne => by simp only [World.setChan]; rw [Array.getElem?_setIfInBounds_ne (fun e => hne (by rw [e]))]⟩

end Go.Proofs.Ytgbkjfhmbchiiaa

namespace Go.Proofs.Ytgbkjfhmbchiiaa
set_option linter.unusedVariables false
set_option linter.unusedSimpArgs false
open Go.RowKit

/-- an element of any kind is read as itself -/
def anyEl (v : Value) : Option (DataW Value × List MemPlace) := some (.held v, [])
/-- block b is a map of at most n entries that reads as C -/
def MapI (P : Program) (k : TypeId) (w : World) (b n : Nat) (C : Int → Option Value) : Prop :=
  ∃ D : DataW Value, w.ownsMap P k anyEl b n D ∧ ∀ i : Int, (Lit.int .i64 i).wf = true → Maps.has D (.int .i64 i) = (C i).isSome ∧ ∀ z : Value, D.atKey (.int .i64 i) (.held z) = .held ((C i).getD z)
section
variable {P : Program} {k e t : TypeId} {w w' : World} {b n : Nat} {C : Int → Option Value}
theorem MapI.made (w : World) (P : Program) (k : TypeId) : MapI P k (w.alloc (.map #[] 0)) w.heap.size 0 (fun _ => none) :=
  ⟨.map [], World.ownsMap_made w P k anyEl, fun _ _ => ⟨rfl, fun _ => rfl⟩⟩
theorem MapI.kept {row : Option Nat} (h : MapI P k w b n C) (hg : w.grownBy w' row) (hne : some b ≠ row) : MapI P k w' b n C := by
  obtain ⟨D, h1, h2⟩ := h
  exact ⟨D, h1.kept hg hne, h2⟩
theorem MapI.alloc (h : MapI P k w b n C) (o : Obj) : MapI P k (w.alloc o) b n C := h.kept (World.grownBy_alloc w o none) (by simp)
theorem MapI.drewN (h : MapI P k w b n C) (m : Nat) : MapI P k (w.drewN m) b n C := h
theorem MapI.lt (h : MapI P k w b n C) : b < w.heap.size := by obtain ⟨D, h1, _⟩ := h; exact h1.lt
theorem MapI.ask (h : MapI P k w b n C) (hk : P.underlying k = some (.int .i64)) (ht : P.underlying t = some (.map k e)) {z : Value} (hz : (zeroValue e).run P w = .ok z w) {i : Int} (hi : (Lit.int .i64 i).wf = true) :
    (Instr.lookup t (.map (some b)) (.int .i64 i) true).run P w = .ok (.tuple #[(C i).getD z, .bool (C i).isSome]) w := by
  obtain ⟨D, h1, h2⟩ := h
  obtain ⟨v, ps, hr, hv⟩ := h1.look_ok (Maps.int_keyed hk) ht hz (zd := .held z) (zp := []) rfl (Maps.keyOf_int_mk hk hi)
  obtain ⟨ha, hb⟩ := h2 i hi
  rw [hb z] at hv
  unfold anyEl at hv
  simp only [Option.some.injEq, Prod.mk.injEq, DataW.held.injEq] at hv
  rw [hr, ha, hv.1]
theorem MapI.get (h : MapI P k w b n C) (hk : P.underlying k = some (.int .i64)) (ht : P.underlying t = some (.map k e)) {z : Value} (hz : (zeroValue e).run P w = .ok z w) {i : Int} (hi : (Lit.int .i64 i).wf = true) :
    (Instr.lookup t (.map (some b)) (.int .i64 i) false).run P w = .ok ((C i).getD z) w := by
  obtain ⟨D, h1, h2⟩ := h
  obtain ⟨v, ps, hr, hv⟩ := h1.lookup (Maps.int_keyed hk) ht hz (zd := .held z) (zp := []) rfl (Maps.keyOf_int_mk hk hi)
  obtain ⟨ha, hb⟩ := h2 i hi
  rw [hb z] at hv
  unfold anyEl at hv
  simp only [Option.some.injEq, Prod.mk.injEq, DataW.held.injEq] at hv
  rw [hr, hv.1]
theorem MapI.set (h : MapI P k w b n C) (hk : P.underlying k = some (.int .i64)) (ht : P.underlying t = some (.map k e)) (hn : n < maxLen) {i : Int} (hi : (Lit.int .i64 i).wf = true) (v : Value) :
    ∃ w', (Instr.mapUpdate t (.map (some b)) (.int .i64 i) v).run P w = .ok () w' ∧ MapI P k w' b (n + 1) (fun j => if j = i then some v else C j) ∧ w.grownBy w' (some b) := by
  obtain ⟨D, h1, h2⟩ := h
  obtain ⟨w', hr, h3, h4⟩ := h1.update (Maps.int_keyed hk) ht hn (Maps.keyOf_int_mk hk hi) (val := v) (d := .held v) (ps := []) rfl
  refine ⟨w', hr, ⟨_, h3, fun j hj => ?_⟩, h4⟩
  have hkl : WideAt.IsKeyLit (.int .i64 i) := by simp [WideAt.IsKeyLit]
  dsimp only
  by_cases e : j = i
  · subst e
    rw [if_pos rfl]
    exact ⟨Maps.has_put_same h1.isMap hkl _, fun z => Maps.atKey_put_same h1.isMap hkl _ _⟩
  · rw [if_neg e]
    have hne : (Lit.int .i64 j) ≠ .int .i64 i := by intro h; injection h with _ h; exact e h
    rw [Maps.has_put_other hne]
    exact ⟨(h2 j hj).1, fun z => by rw [Maps.atKey_put_other hne]; exact (h2 j hj).2 z⟩
theorem MapI.del (h : MapI P k w b n C) (hk : P.underlying k = some (.int .i64)) (ht : P.underlying t = some (.map k e)) {i : Int} (hi : (Lit.int .i64 i).wf = true) (ty : TypeId) :
    ∃ w', (Builtin.delete_ #[t, k] ty #[.map (some b), .int .i64 i]).run P w = .ok (.tuple #[]) w' ∧ MapI P k w' b n (fun j => if j = i then none else C j) ∧ w.grownBy w' (some b) := by
  obtain ⟨D, h1, h2⟩ := h
  obtain ⟨w', hr, h3, h4⟩ := h1.drop (Maps.int_keyed hk) ht (Maps.keyOf_int_mk hk hi) ty
  refine ⟨w', hr, ⟨_, h3, fun j hj => ?_⟩, h4.grown⟩
  dsimp only
  by_cases e : j = i
  · subst e
    rw [if_pos rfl]
    exact ⟨Maps.has_del_same, fun z => Maps.atKey_del_same _⟩
  · rw [if_neg e]
    have hne : (Lit.int .i64 j) ≠ .int .i64 i := by intro h; injection h with _ h; exact e h
    rw [Maps.has_del_other hne]
    exact ⟨(h2 j hj).1, fun z => by rw [Maps.atKey_del_other hne]; exact (h2 j hj).2 z⟩
end

theorem wpList_setI {P : Program} (w : World) {ops : Array Oper} {rest : List Oper} {o : Oper} {a : Act} {Q : Exit → Act → World → Prop}
    (hg : o.guard = none) (m x v : Operand) (t : TypeId) (hop : o.op = Op.mapUpdate t m x v)
    (k e : TypeId) (hk : P.underlying k = some (.int .i64)) (ht : P.underlying t = some (.map k e)) (b n : Nat) (C : Int → Option Value)
    (hm : a.eval m = .map (some b)) (hown : MapI P k w b n C) (hn : n < maxLen) (i : Int) (val : Value) (hi : (Lit.int .i64 i).wf = true) (hx : a.eval x = .int .i64 i) (hv : a.eval v = val)
    (hK : ∀ w', MapI P k w' b (n + 1) (fun j => if j = i then some val else C j) → w.grownBy w' (some b) → wpList P ops Q rest (a.put o.dst undef) w') :
    wpList P ops Q (o :: rest) a w := by
  refine wpList_plain hg fun K' hK' => ?_
  obtain ⟨w', hrun, r1, r2⟩ := hown.set hk ht hn hi val
  unfold Oper.wp
  simp [execOp, hop, hm, hx, hv, hrun, Result.andThen]
  exact hK' _ _ (hK w' r1 r2)

end Go.Proofs.Ytgbkjfhmbchiiaa
