/-
  A send into a buffer with room, and a receive, as operations of a region: the kit's walk around them, the machine's own step at them. Plain laws over any program.
-/
import Derived.Test.YtgbkjfhmbchiiaaBase
import Derived.Conc.LoneCalls
namespace Go.Proofs.Ytgbkjfhmbchiiaa
set_option linter.unusedVariables false
set_option linter.unusedSimpArgs false
open Go.RowKit Go.Conc

/-- from these operations of a region on, the machine comes to an exit of which Q holds -/
def WpO (P : Program) (ops : Array Oper) (Q : Exit → Act → World → Prop) (l : List Nat) (a : Act) (w : World) : Prop :=
  ∀ (b : Frame) (k : List Item) (cs : List Frame), ∃ e a' w', Q e a' w' ∧ Arrives P (lone (b.at a (.inRegion ops l :: k)) cs w) b k cs e a' w'
section
variable {P : Program} {ops : Array Oper} {Q : Exit → Act → World → Prop} {a : Act} {w w' : World} {i : Nat} {rest : List Nat} {o : Oper} {c cap s r : Nat} {buf : Array Value} {z v : Value} {tm closed : Bool}
theorem WpO.of {l : List Nat} (h : wpOps P ops Q l a w) : WpO P ops Q l a w := wp_ops l a w h
theorem WpO.region {id : Nat} (h : WpO P ops Q (List.range ops.size) a w) : (Code.region id ops false).wp P Q a w :=
  fun b k cs => let ⟨e, a', w', q, r⟩ := h b k cs; ⟨e, a', w', q, .of_steps (.one step_region) r⟩
theorem WpO.nil (h : Q .normal a w) : WpO P ops Q [] a w := fun b k cs => ⟨.normal, a, w, h, .one step_region_end⟩
theorem WpO.value (ho : ops[i]? = some o) (hw : Region.wanted o (yielded ops a.tmps) = true) (hr : (execOp a.eval o).run P w = .ok (.value v) w') (h : WpO P ops Q rest (a.put o.dst v) w') : WpO P ops Q (i :: rest) a w := by
  intro b k cs
  obtain ⟨e, a', w'', hq, harr⟩ := h b k cs
  refine ⟨e, a', w'', hq, .of_steps (.one (step_lone_go ?_)) harr⟩
  have hg := stepG_op (P := P) (b := b) (k := k) (cs := cs) (w := w) (rest := rest) ho hw
  have hfin : (b.at a (.inRegion ops (i :: rest) :: k)).finish v = b.at (a.put o.dst v) (.inRegion ops rest :: k) := by rw [Frame.finish_at, ho]; rfl
  rw [hg, ← hfin]; simp [stepG.apply, hr]
theorem stepG_comm_any {main : Bool} {b : Frame} {k : List Item} {cs : List Frame} {cases : Array CommCase} {blocking : Bool} {shape : CommShape} (ho : ops[i]? = some o) (hw : Region.wanted o (yielded ops a.tmps) = true)
    (hr : (execOp a.eval o).run P w = .ok (.comm cases blocking shape) w') :
    ∃ es, stepG P main (G (b.at a (.inRegion ops (i :: rest) :: k)) cs) w = .comm (G (b.at a (.inRegion ops (i :: rest) :: k)) cs) cases blocking shape w' es := by
  have hb : (stepG P main (G (b.at a (.inRegion ops (i :: rest) :: k)) cs) w).bare = .comm (G (b.at a (.inRegion ops (i :: rest) :: k)) cs) cases blocking shape w' := by
    rw [stepG_oper ho hw]
    simp [stepG.apply, hr, G, Frame.at]
  generalize stepG P main (G (b.at a (.inRegion ops (i :: rest) :: k)) cs) w = s at hb ⊢
  cases s <;> simp at hb
  obtain ⟨rfl, rfl, rfl, rfl, rfl⟩ := hb
  exact ⟨_, rfl⟩
theorem WpO.send (ho : ops[i]? = some o) (hw : Region.wanted o (yielded ops a.tmps) = true) (hr : (execOp a.eval o).run P w = .ok (.comm #[scase c v z] true .send) w) (hc : w.heap[c]? = some (.chan cap buf false s r tm)) (hroom : buf.size < cap)
    (h : WpO P ops Q rest (a.put o.dst undef) (w.setChan c cap (buf.push v) false (s + 1) r tm)) : WpO P ops Q (i :: rest) a w := by
  intro b k cs
  obtain ⟨es, he⟩ := stepG_comm_any (P := P) (main := true) (b := b) (k := k) (cs := cs) (rest := rest) ho hw hr
  obtain ⟨e, a', w', hq, harr⟩ := h b k cs
  refine ⟨e, a', w', hq, .of_steps (.one ?_) harr⟩
  have h1 := step_lone_send_room he hc hroom
  rw [Frame.finish_at, ho] at h1
  exact h1
theorem WpO.recv (ok : Bool) (ho : ops[i]? = some o) (hw : Region.wanted o (yielded ops a.tmps) = true) (hr : (execOp a.eval o).run P w = .ok (.comm #[rcase c z] true (.recv ok)) w) (hc : w.heap[c]? = some (.chan cap buf closed s r tm)) (hsome : 0 < buf.size)
    (h : WpO P ops Q rest (a.put o.dst (got ok (buf.getD 0 undef) true)) (w.setChan c cap (buf.extract 1 buf.size) closed s (r + 1) tm)) : WpO P ops Q (i :: rest) a w := by
  intro b k cs
  obtain ⟨es, he⟩ := stepG_comm_any (P := P) (main := true) (b := b) (k := k) (cs := cs) (rest := rest) ho hw hr
  obtain ⟨e, a', w', hq, harr⟩ := h b k cs
  refine ⟨e, a', w', hq, .of_steps (.one ?_) harr⟩
  have h1 := step_lone_recv_buf ok he hc hsome
  rw [Frame.finish_at, ho] at h1
  exact h1
theorem WpO.shut (ok : Bool) (ho : ops[i]? = some o) (hw : Region.wanted o (yielded ops a.tmps) = true) (hr : (execOp a.eval o).run P w = .ok (.comm #[rcase c z] true (.recv ok)) w) (hc : w.heap[c]? = some (.chan cap #[] true s r tm))
    (h : WpO P ops Q rest (a.put o.dst (got ok z false)) w) : WpO P ops Q (i :: rest) a w := by
  intro b k cs
  obtain ⟨es, he⟩ := stepG_comm_any (P := P) (main := true) (b := b) (k := k) (cs := cs) (rest := rest) ho hw hr
  obtain ⟨e, a', w', hq, harr⟩ := h b k cs
  refine ⟨e, a', w', hq, .of_steps (.one ?_) harr⟩
  have h1 := step_lone_recv_shut ok he hc
  rw [Frame.finish_at, ho] at h1
  exact h1
end

/-- what else lies in memory is as it was -/
theorem chan_block {w : World} {c cap : Nat} {buf : Array Value} {cl : Bool} {s r : Nat} {tm : Bool} (h : c < w.heap.size) : (w.setChan c cap buf cl s r tm).heap[c]? = some (.chan cap buf cl s r tm) := by simp [World.setChan, h]
theorem chan_grown (w : World) (c cap : Nat) (buf : Array Value) (cl : Bool) (s r : Nat) (tm : Bool) : w.grownBy (w.setChan c cap buf cl s r tm) (some c) :=
  ⟨rfl, rfl, rfl, by simp [World.setChan], fun i _ hne => by simp only [World.setChan]; rw [Array.getElem?_setIfInBounds_ne (fun e => hne (by rw [e]))]⟩

end Go.Proofs.Ytgbkjfhmbchiiaa
