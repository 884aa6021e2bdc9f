/-
  The walks of toIntS, eqIntS: a copy of a slice of ints in new memory; whether two slices of ints read alike. No condition but the reach of what is read.
  A map of the call's own with integer keys and elements of any kind: block b reads as the function C. Plain laws over any program: made, kept, asked, written, deleted.
-/
import Derived.Test.YtgnhanbdfohjaaaK3
import Derived.Deep.QuietTactic
import Derived.BigQuiet
import Derived.Test.YtgnhanbdfohjaaaK1
import Derived.Maps.OwnSet
import Derived.Maps.Views
namespace Go.Proofs.Ytgnhanbdfohjaaa
set_option linter.unusedVariables false
set_option linter.unusedSimpArgs false
open Go.RowKit

theorem Try.infoInt : (Try.prog.info? 3).map (fun i => (i.zero, i.size, i.bytes)) = some (some (.int .i64 0), 1, 8) := by kernel_rfl

theorem own_drew {w : World} {base size n : Nat} {e : TypeId} {v : Value} {xs : List Value} (h : w.ownsRow base e size v n xs) (k : Nat) : (w.drewN k).ownsRow base e size v n xs := h

end Go.Proofs.Ytgnhanbdfohjaaa

namespace Go.Proofs.Ytgnhanbdfohjaaa
set_option linter.unusedVariables false
set_option linter.unusedSimpArgs false
open Go.RowKit

/-- an element of any kind is read as itself -/
def anyEl (v : Value) : Option (DataW Value × List MemPlace) := some (.held v, [])
/-- block b is a map of at most n entries that reads as C -/
def MapI (P : Program) (k : TypeId) (w : World) (b n : Nat) (C : Int → Option Value) : Prop :=
  ∃ D : DataW Value, w.ownsMap P k anyEl b n D ∧ ∀ i : Int, (Lit.int .i64 i).wf = true → Maps.has D (.int .i64 i) = (C i).isSome ∧ ∀ z : Value, D.atKey (.int .i64 i) (.held z) = .held ((C i).getD z)
section
variable {P : Program} {k e t : TypeId} {w w' : World} {b n : Nat} {C : Int → Option Value}
theorem MapI.made (w : World) (P : Program) (k : TypeId) : MapI P k (w.alloc (.map #[] 0)) w.heap.size 0 (fun _ => none) :=
  ⟨.map [], World.ownsMap_made w P k anyEl, fun _ _ => ⟨rfl, fun _ => rfl⟩⟩
theorem MapI.kept {row : Option Nat} (h : MapI P k w b n C) (hg : w.grownBy w' row) (hne : some b ≠ row) : MapI P k w' b n C := by
  obtain ⟨D, h1, h2⟩ := h
  exact ⟨D, h1.kept hg hne, h2⟩
theorem MapI.alloc (h : MapI P k w b n C) (o : Obj) : MapI P k (w.alloc o) b n C := h.kept (World.grownBy_alloc w o none) (by simp)
theorem MapI.drewN (h : MapI P k w b n C) (m : Nat) : MapI P k (w.drewN m) b n C := h
theorem MapI.lt (h : MapI P k w b n C) : b < w.heap.size := by obtain ⟨D, h1, _⟩ := h; exact h1.lt
theorem MapI.ask (h : MapI P k w b n C) (hk : P.underlying k = some (.int .i64)) (ht : P.underlying t = some (.map k e)) {z : Value} (hz : (zeroValue e).run P w = .ok z w) {i : Int} (hi : (Lit.int .i64 i).wf = true) :
    (Instr.lookup t (.map (some b)) (.int .i64 i) true).run P w = .ok (.tuple #[(C i).getD z, .bool (C i).isSome]) w := by
  obtain ⟨D, h1, h2⟩ := h
  obtain ⟨v, ps, hr, hv⟩ := h1.look_ok (Maps.int_keyed hk) ht hz (zd := .held z) (zp := []) rfl (Maps.keyOf_int_mk hk hi)
  obtain ⟨ha, hb⟩ := h2 i hi
  rw [hb z] at hv
  unfold anyEl at hv
  simp only [Option.some.injEq, Prod.mk.injEq, DataW.held.injEq] at hv
  rw [hr, ha, hv.1]
theorem MapI.get (h : MapI P k w b n C) (hk : P.underlying k = some (.int .i64)) (ht : P.underlying t = some (.map k e)) {z : Value} (hz : (zeroValue e).run P w = .ok z w) {i : Int} (hi : (Lit.int .i64 i).wf = true) :
    (Instr.lookup t (.map (some b)) (.int .i64 i) false).run P w = .ok ((C i).getD z) w := by
  obtain ⟨D, h1, h2⟩ := h
  obtain ⟨v, ps, hr, hv⟩ := h1.lookup (Maps.int_keyed hk) ht hz (zd := .held z) (zp := []) rfl (Maps.keyOf_int_mk hk hi)
  obtain ⟨ha, hb⟩ := h2 i hi
  rw [hb z] at hv
  unfold anyEl at hv
  simp only [Option.some.injEq, Prod.mk.injEq, DataW.held.injEq] at hv
  rw [hr, hv.1]
theorem MapI.set (h : MapI P k w b n C) (hk : P.underlying k = some (.int .i64)) (ht : P.underlying t = some (.map k e)) (hn : n < maxLen) {i : Int} (hi : (Lit.int .i64 i).wf = true) (v : Value) :
    ∃ w', (Instr.mapUpdate t (.map (some b)) (.int .i64 i) v).run P w = .ok () w' ∧ MapI P k w' b (n + 1) (fun j => if j = i then some v else C j) ∧ w.grownBy w' (some b) := by
  obtain ⟨D, h1, h2⟩ := h
  obtain ⟨w', hr, h3, h4⟩ := h1.update (Maps.int_keyed hk) ht hn (Maps.keyOf_int_mk hk hi) (val := v) (d := .held v) (ps := []) rfl
  refine ⟨w', hr, ⟨_, h3, fun j hj => ?_⟩, h4⟩
  have hkl : WideAt.IsKeyLit (.int .i64 i) := by simp [WideAt.IsKeyLit]
  dsimp only
  by_cases e : j = i
  · subst e
    rw [if_pos rfl]
    exact ⟨Maps.has_put_same h1.isMap hkl _, fun z => Maps.atKey_put_same h1.isMap hkl _ _⟩
  · rw [if_neg e]
    have hne : (Lit.int .i64 j) ≠ .int .i64 i := by intro h; injection h with _ h; exact e h
    rw [Maps.has_put_other hne]
    exact ⟨(h2 j hj).1, fun z => by rw [Maps.atKey_put_other hne]; exact (h2 j hj).2 z⟩
theorem MapI.del (h : MapI P k w b n C) (hk : P.underlying k = some (.int .i64)) (ht : P.underlying t = some (.map k e)) {i : Int} (hi : (Lit.int .i64 i).wf = true) (ty : TypeId) :
    ∃ w', (Builtin.delete_ #[t, k] ty #[.map (some b), .int .i64 i]).run P w = .ok (.tuple #[]) w' ∧ MapI P k w' b n (fun j => if j = i then none else C j) ∧ w.grownBy w' (some b) := by
  obtain ⟨D, h1, h2⟩ := h
  obtain ⟨w', hr, h3, h4⟩ := h1.drop (Maps.int_keyed hk) ht (Maps.keyOf_int_mk hk hi) ty
  refine ⟨w', hr, ⟨_, h3, fun j hj => ?_⟩, h4.grown⟩
  dsimp only
  by_cases e : j = i
  · subst e
    rw [if_pos rfl]
    exact ⟨Maps.has_del_same, fun z => Maps.atKey_del_same _⟩
  · rw [if_neg e]
    have hne : (Lit.int .i64 j) ≠ .int .i64 i := by intro h; injection h with _ h; exact e h
    rw [Maps.has_del_other hne]
    exact ⟨(h2 j hj).1, fun z => by rw [Maps.atKey_del_other hne]; exact (h2 j hj).2 z⟩
end

theorem wpList_setI {P : Program} (w : World) {ops : Array Oper} {rest : List Oper} {o : Oper} {a : Act} {Q : Exit → Act → World → Prop}
    (hg : o.guard = none) (m x v : Operand) (t : TypeId) (hop : o.op = Op.mapUpdate t m x v)
    (k e : TypeId) (hk : P.underlying k = some (.int .i64)) (ht : P.underlying t = some (.map k e)) (b n : Nat) (C : Int → Option Value)
    (hm : a.eval m = .map (some b)) (hown : MapI P k w b n C) (hn : n < maxLen) (i : Int) (val : Value) (hi : (Lit.int .i64 i).wf = true) (hx : a.eval x = .int .i64 i) (hv : a.eval v = val)
    (hK : ∀ w', MapI P k w' b (n + 1) (fun j => if j = i then some val else C j) → w.grownBy w' (some b) → wpList P ops Q rest (a.put o.dst undef) w') :
    wpList P ops Q (o :: rest) a w := by
  refine wpList_plain hg fun K' hK' => ?_
  obtain ⟨w', hrun, r1, r2⟩ := hown.set hk ht hn hi val
  unfold Oper.wp
  simp [execOp, hop, hm, hx, hv, hrun, Result.andThen]
  exact hK' _ _ (hK w' r1 r2)

end Go.Proofs.Ytgnhanbdfohjaaa
