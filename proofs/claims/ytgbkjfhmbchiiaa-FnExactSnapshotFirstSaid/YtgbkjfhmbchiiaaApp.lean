/-
  append onto a row of the call's own from any readable source; how readings and readers are kept across it. Plain laws over any program; no condition but the bounds that each names.
-/
import Derived.Test.YtgbkjfhmbchiiaaBase
import Derived.Laws.AppendOwn
import Derived.Laws.OwnMore
import Derived.Deep.AppendLies
import Derived.OwnWalk
namespace Go.Proofs.Ytgbkjfhmbchiiaa
set_option linter.unusedVariables false
set_option linter.unusedSimpArgs false
open Go.RowKit

/-- what the laws ask of a slice type t over the element type e -/
structure ElemT (P : Program) (t e : TypeId) (z : Value) (size bytes : Nat) : Prop where
  under : P.underlying t = some (.slice e)
  info : (P.info? e).map (fun i => (i.zero, i.size, i.bytes)) = some (some z, size, bytes)
  cells : z.cells.size = size
  pos : 0 < size

theorem run_app {P : Program} {w : World} {t e ty : TypeId} {z : Value} {size bytes base n m c lo hi : Nat} {A : Option Addr} {v : Value} {cs news : List Value} (E : ElemT P t e z size bytes)
    (hown : w.ownsRow base e size v n cs) (hr : Rd w lo hi A news) (hl : news.length = m * size) (h1 : ∀ u ∈ news, u.oneCell' = true) (h63 : n + m ≤ maxLen) (hbytes : (n + m) * bytes ≤ 140737488355328) (hbase : base ≤ w.heap.size) :
    ∃ v' w', (Builtin.append_ #[t, t] ty #[v, .slice A m c]).run P w = .ok v' w' ∧ w'.ownsRow base e size v' (n + m) (cs ++ news) ∧ w.grownBy w' v.ownBlock := by
  obtain ⟨i, hi, hz, hz1, hz2⟩ := info_parts E.info
  by_cases hne : news = []
  · subst hne
    have hm : m = 0 := by
      rcases Nat.eq_zero_or_pos m with h0 | h0
      · exact h0
      · have := Nat.mul_pos h0 E.pos
        simp at hl; omega
    subst hm
    rcases A with _ | ad
    · refine ⟨v, w, ?_, by simpa using hown, World.grownBy.refl w _⟩
      rcases hown.2 with ⟨rfl, rfl⟩ | ⟨g, cap, cur, rfl, _, _, hnc, _⟩
      · simp [Builtin.append_, run_underlying E.under, sizeOf, typeInfo, hi, Builtin.lenOf, Builtin.firstCells]
      · simp [Builtin.append_, run_underlying E.under, sizeOf, typeInfo, hi, Builtin.lenOf, Builtin.firstCells, hnc, storeCells]
    · obtain ⟨v', w', hrun, h2, h3, _⟩ := run_append_own (P := P) w base t ty e i z size bytes E.under hi hz hz1 hz2 E.cells E.pos v n cs hown ad 0 c [] (by simp) (by simp) (by simp) h63 hbytes hbase
      exact ⟨v', w', hrun, h2, h3⟩
  · obtain ⟨b, o, rfl, _, _, hc⟩ := hr hne
    obtain ⟨v', w', hrun, h2, h3, _⟩ := run_append_own (P := P) w base t ty e i z size bytes E.under hi hz hz1 hz2 E.cells E.pos v n cs hown ⟨b, o, none⟩ m c news hl (fun j u hu => by
      have e2 : (⟨b, o, none⟩ : Addr).add j = ⟨b, o + j, none⟩ := by
        unfold Addr.add
        by_cases hj : j = 0 <;> simp [hj]
      rw [e2]; exact hc j u hu) h1 h63 hbytes hbase
    exact ⟨v', w', hrun, h2, h3⟩

theorem wpList_app {P : Program} {w : World} {ops : Array Oper} {rest : List Oper} {o : Oper} {a : Act} {Q : Exit → Act → World → Prop} {s x : Operand} {t e : TypeId} {z : Value} {size bytes base n m c lo hi : Nat} {A : Option Addr} {v : Value} {cs news : List Value}
    (E : ElemT P t e z size bytes) (hown : w.ownsRow base e size v n cs) (hr : Rd w lo hi A news) (hl : news.length = m * size) (h1 : ∀ u ∈ news, u.oneCell' = true) (h63 : n + m ≤ maxLen) (hbytes : (n + m) * bytes ≤ 140737488355328) (hbase : base ≤ w.heap.size)
    (hgd : Region.wanted o (yielded ops a.tmps) = true) (ho : o.op = .call { callee := .builtin .append, args := #[s, x], argTypes := #[t, t] }) (hs : a.eval s = v) (hx : a.eval x = .slice A m c)
    (h : ∀ v' w', w'.ownsRow base e size v' (n + m) (cs ++ news) → w.grownBy w' v.ownBlock → wpList P ops Q rest (a.put o.dst v') w') : wpList P ops Q (o :: rest) a w :=
  wpList_step fun K hK => by
    rw [if_pos hgd]
    obtain ⟨v', w', hr, h2, h3⟩ := run_app (P := P) (ty := o.type) (c := c) E hown hr hl h1 h63 hbytes hbase
    unfold Oper.wp execOp
    simp only [ho, resolve, invoke, builtin, Sem.run_bind, Sem.run_pure, Result.andThen_ok, List.map_toArray, List.map_cons, List.map_nil, hs, hx, hr]
    exact hK _ _ (h v' w' h2 h3)

/-- a block that was just made -/
theorem rd_new (w : World) (cs : List Value) (e : TypeId) : Rd (w.alloc (.cells cs.toArray e)) w.heap.size (w.heap.size + 1) (some ⟨w.heap.size, 0, none⟩) cs := fun _ =>
  ⟨w.heap.size, 0, rfl, Nat.le_refl _, Nat.lt_succ_self _, fun j u hu => by
    rw [cell_of_row (w.alloc (.cells cs.toArray e)) w.heap.size (0 + j) _ _ _ (heap_alloc_new w _)]
    simpa using hu⟩

theorem below_app {C base e size n : Nat} {w wr w' : World} {v : Value} {cs : List Value} (hb : Below C w wr) (hC : C ≤ base) (hbase : base ≤ wr.heap.size) (hown : wr.ownsRow base e size v n cs) (hg : wr.grownBy w' v.ownBlock) : Below C w w' :=
  hb.grown hg (by omega) (fun k hk => by have := (hown.lt k hk).1; omega)
theorem own_nil_lit (w : World) (e : TypeId) (size : Nat) : (w.alloc (.cells #[] e)).ownsRow w.heap.size e size (.slice (some ⟨w.heap.size, 0, none⟩) 0 0) 0 [] := by
  simpa using World.ownsRow_lit (e := e) (size := size) w #[] 0 (Nat.le_refl _) (Nat.zero_le _) (by simp)
theorem own_kept_row {w w' : World} {base e size n g : Nat} {v : Value} {cs : List Value} (h : w.ownsRow base e size v n cs) (hg : w.grownBy w' (some g)) (hlt : g < base) : w'.ownsRow base e size v n cs :=
  h.kept hg (by
    rcases hv : v.ownBlock with _ | k
    · exact .inl rfl
    · refine .inr (fun e => ?_)
      injection e with e
      have := (h.lt k hv).1; omega)
theorem below_row {C g : Nat} {w wr w' : World} (hb : Below C w wr) (hC : C ≤ wr.heap.size) (hg : wr.grownBy w' (some g)) (hlt : C ≤ g) : Below C w w' :=
  hb.grown hg hC (fun k hk => by injection hk with hk; omega)

end Go.Proofs.Ytgbkjfhmbchiiaa
