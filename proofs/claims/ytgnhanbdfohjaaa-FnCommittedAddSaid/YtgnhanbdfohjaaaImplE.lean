/-
  The walk of prepares.follow of the program: a vote, behind records among which no other vote holds its refs. Condition: the history reads as the records before.
-/
import Derived.Test.YtgnhanbdfohjaaaImplD
import Derived.Deep.RegionHeld3
import Derived.Deep.DrawnRows
namespace Go.Proofs.Ytgnhanbdfohjaaa
set_option linter.unusedVariables false
set_option linter.unusedSimpArgs false
open Go.RowKit
attribute [local go_sem ↓] Go.wp_at_zero Go.wp_at_succ

theorem zeroRec (w : World) : (zeroValue 48).run Try.prog w = .ok (.agg #[.int .i64 0, .int .i64 0, .slice none 0 0]) w := by kernel_rfl
theorem wf_txn {t : Int} (h : txB t = true) : (Lit.int .i64 t).wf = true := WalkArith.wf_i64 (by have := (txB_iff t).1 h; omega)
theorem histAsk {w : World} {n mb : Nat} {done : List RecC} {t : Int} (h : MapI Try.prog 3 w mb n (fun t => (lastC done t).map rv)) (ht : txB t = true) :
    (Instr.lookup 61 (.map (some mb)) (.int .i64 t) true).run Try.prog w = .ok (.tuple #[((lastC done t).map rv).getD (.agg #[.int .i64 0, .int .i64 0, .slice none 0 0]), .bool ((lastC done t).map rv).isSome]) w :=
  h.ask (e := 48) Try.underlying3 Try.underlying61 (zeroRec w) (wf_txn ht)
theorem histGet {w : World} {n mb : Nat} {done : List RecC} {t : Int} (h : MapI Try.prog 3 w mb n (fun t => (lastC done t).map rv)) (ht : txB t = true) :
    (Instr.lookup 61 (.map (some mb)) (.int .i64 t) false).run Try.prog w = .ok (((lastC done t).map rv).getD (.agg #[.int .i64 0, .int .i64 0, .slice none 0 0])) w :=
  h.get (e := 48) Try.underlying3 Try.underlying61 (zeroRec w) (wf_txn ht)
/-- the cells of a history -/
theorem hist_cells {w : World} {g : Nat} {T : TypeId} {xs : List Int} {v4 v5 : Value} (h : TabX w g T xs [v4, v5]) (hl : xs.length = 4) :
    (∃ x0 x1 x2 x3, xs = [x0, x1, x2, x3] ∧ w.cell? ⟨g, 0, none⟩ = some (.int .i64 x0) ∧ w.cell? ⟨g, 1, none⟩ = some (.int .i64 x1) ∧ w.cell? ⟨g, 2, none⟩ = some (.int .i64 x2) ∧ w.cell? ⟨g, 3, none⟩ = some (.int .i64 x3)) ∧
    w.cell? ⟨g, 4, none⟩ = some v4 ∧ w.cell? ⟨g, 5, none⟩ = some v5 ∧ ∀ j, w.frozen? ⟨g, j, none⟩ = false := by
  match xs, hl with
  | [x0, x1, x2, x3], _ =>
    exact ⟨⟨x0, x1, x2, x3, rfl, cell_of_row _ _ 0 _ _ _ h, cell_of_row _ _ 1 _ _ _ h, cell_of_row _ _ 2 _ _ _ h, cell_of_row _ _ 3 _ _ _ h⟩, cell_of_row _ _ 4 _ _ _ h, cell_of_row _ _ 5 _ _ _ h, fun j => frozen_of_row _ _ _ _ _ h⟩

/-- blocks of other types than a history's are kept -/
def KeepR (w w' : World) : Prop := ∀ (i : Nat) (cs : Array Value) (T : TypeId), T ≠ 63 → T ≠ 3 → T ≠ 60 → w.heap[i]? = some (.cells cs T (0, 0)) → w'.heap[i]? = some (.cells cs T (0, 0))
theorem KeepR.refl (w : World) : KeepR w w := fun _ _ _ _ _ _ h => h
theorem KeepR.tr {a b c : World} (h : KeepR a b) (k : KeepR b c) : KeepR a c := fun i cs T h1 h2 h3 h4 => k i cs T h1 h2 h3 (h i cs T h1 h2 h3 h4)
theorem KeepR.bel {w w' : World} (h : Below w.heap.size w w') : KeepR w w' := fun i cs T _ _ _ h4 => (h.block i (heap_lt h4)).trans h4
theorem KeepR.alloc (w : World) (o : Obj) : KeepR w (w.alloc o) := .bel ((Below.refl _ _).alloc (Nat.le_refl _) o)
theorem KeepR.alloc2 (w : World) (o o' : Obj) : KeepR w ((w.alloc o).alloc o') := (KeepR.alloc w o).tr (.alloc _ o')
theorem KeepR.row {w w' : World} {g : Nat} {xs : List Int} {rest : List Value} {T : TypeId} (h : w.grownBy w' (some g)) (hT : TabX w g T xs rest) (hne : T = 63 ∨ T = 3 ∨ T = 60) : KeepR w w' := fun i cs T' h1 h2 h3 h4 => by
  refine (h.block i (heap_lt h4) (fun e => ?_)).trans h4
  injection e with e
  subst e
  unfold TabX at hT
  rw [hT] at h4
  injection h4 with h4
  injection h4 with _ h4 _
  subst h4
  rcases hne with h | h | h
  · exact h1 h
  · exact h2 h
  · exact h3 h

/-- a step has failed: nothing below base has turned -/
def StepNo (base : Nat) (w : World) (e : Ending) (w' : World) : Prop := Below base w w' ∧ e = .returned (.bool false)
/-- a step has been taken -/
def StepYes (base hb n : Nat) (done : List RecC) (s : St) (w : World) (e : Ending) (w' : World) : Prop := HistC w' base hb n done s ∧ Below base w w' ∧ KeepR w w' ∧ e = .returned (.bool true)

set_option linter.unusedVariables false in
set_option maxRecDepth 100000 in
set_option maxHeartbeats 1600000 in
theorem votes_known (base hb n : Nat) (done : List RecC) (s : St) (t : Int) (A : Option Addr) (k c : Nat) (w : World) (hsl : s.refs.length = 4) (h : HistC w base hb n done s) (ht : txB t = true) (q : RecC) (hq : lastC done t = some q) :
    Calls Try.prog 99 #[.agg #[.slice A k c], .pointer (some ⟨hb, 0, none⟩), .int .i64 t] w fun e w' => StepNo base w e w' := by
  obtain ⟨lb, mb, hT, hL, hM, hb1, hb2, hb3, hn1, hn2, hn3⟩ := h
  have hhb := hT.lt
  have hsz : base ≤ w.heap.size := by omega
  obtain ⟨-, g4, g5, gf⟩ := hist_cells (hT.alloc (.cells #[.slice A k c] 104)) hsl
  have hlk := histAsk (hM.alloc (.cells #[.slice A k c] 104)) ht
  rw [hq] at hlk
  have hlk' : (Instr.lookup 61 (.map (some mb)) (.int .i64 t) true).run Try.prog (w.alloc (.cells #[.slice A k c] 104)) = .ok (.tuple #[.agg #[.int .i64 q.kind, .int .i64 q.txn, .slice q.A q.n q.c], .bool true]) (w.alloc (.cells #[.slice A k c] 104)) := hlk
  clear hlk hT hL hM
  go_enter Try.func99, Try.ntmps99
  go_wp2_with fail
  go_ret
  exact ⟨((Below.refl _ _).alloc hsz _).alloc (by simp; omega) _, rfl⟩

set_option linter.unusedVariables false in
set_option maxRecDepth 100000 in
set_option maxHeartbeats 1600000 in
theorem votes_bad (base hb n : Nat) (done : List RecC) (s : St) (t : Int) (A : Option Addr) (k c : Nat) (us : List Upd) (w : World) (lo hi : Nat) (hsl : s.refs.length = 4) (h : HistC w base hb n done s) (ht : txB t = true) (hq : lastC done t = none)
    (hk : k ≤ 9223372036854775807) (hhi : hi ≤ base) (hU : Fl cu w lo hi A k us) (hu : updsB us = false) :
    Calls Try.prog 99 #[.agg #[.slice A k c], .pointer (some ⟨hb, 0, none⟩), .int .i64 t] w fun e w' => StepNo base w e w' := by
  obtain ⟨lb, mb, hT, hL, hM, hb1, hb2, hb3, hn1, hn2, hn3⟩ := h
  have hhb := hT.lt
  have hsz : base ≤ w.heap.size := by omega
  obtain ⟨-, g4, g5, gf⟩ := hist_cells (hT.alloc (.cells #[.slice A k c] 104)) hsl
  have hlk := histAsk (hM.alloc (.cells #[.slice A k c] 104)) ht
  rw [hq] at hlk
  have hlk' : (Instr.lookup 61 (.map (some mb)) (.int .i64 t) true).run Try.prog (w.alloc (.cells #[.slice A k c] 104)) = .ok (.tuple #[.agg #[.int .i64 0, .int .i64 0, .slice none 0 0], .bool false]) (w.alloc (.cells #[.slice A k c] 104)) := hlk
  have HU := Lib.hid ((hU.alloc (by omega) (.cells #[.slice A k c] 104)).alloc (by simp; omega) (.cells #[.int .i64 0, .int .i64 0, .slice none 0 0] 48))
  clear hlk hT hL hM hU
  go_enter Try.func99, Try.ntmps99
  go_wp2_with fail
  refine (implUpds_any A k c us _ lo hi (by simp; omega) hk HU.out).mono ?_
  rintro e w2 ⟨rfl, hb2'⟩
  have HB : Hid (Below base w w2) := (((Below.refl _ _).alloc hsz _).alloc (by simp; omega) _).trans (hb2'.mono (by simp; omega))
  clear hb2'
  rw [hu]
  go_wp2_with fail
  go_ret
  exact ⟨HB.out, rfl⟩

end Go.Proofs.Ytgnhanbdfohjaaa
