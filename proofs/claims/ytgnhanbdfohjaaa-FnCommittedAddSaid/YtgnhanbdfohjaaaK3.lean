/-
  Plain words for a slice that is made and then filled, element by element; make's own equation; the law's end. No condition.
  append onto a row of the call's own from any readable source; how readings and readers are kept across it. Plain laws over any program; no condition but the bounds that each names.
  append onto a row of the call's own, with where the new slice lies: in the old block or in a new one. Plain law over any program.
  append onto a row of the call's own, as one step of a region that draws its order. Plain law over any program.
  Records in memory: rows of updates and rows of records that lie in blocks from 'lo' on, read as plain lists, and how such a reading is kept. No condition.
-/
import Derived.Test.YtgnhanbdfohjaaaK1
import Derived.Laws.MakeOwn
import Derived.Laws.OwnMore
import Derived.Deep.AppendLies
import Derived.Laws.AppendOwn
import Derived.OwnWalk
import Derived.Maps.AppendAt
import Derived.Deep.RegionLaw
import Derived.Test.YtgnhanbdfohjaaaK2
namespace Go.Proofs.Ytgnhanbdfohjaaa
set_option linter.unusedVariables false
set_option linter.unusedSimpArgs false
open Go.RowKit

/-- the cells of the first k elements, and n - k zero elements behind them -/
def fillC {α : Type} (f : α → List Value) (z : List Value) (xs : List α) (n k : Nat) : List Value := (xs.take k).flatMap f ++ (List.replicate (n - k) z).flatten

def setMany : List Value → Nat → List Value → List Value
  | l, _, [] => l
  | l, p, v :: vs => setMany (l.set p v) (p + 1) vs

theorem setMany_mid (vs : List Value) : ∀ (a zs r : List Value), zs.length = vs.length → setMany (a ++ zs ++ r) a.length vs = a ++ vs ++ r := by
  induction vs with
  | nil => intro a zs r h; have : zs = [] := List.eq_nil_of_length_eq_zero h; subst this; simp [setMany]
  | cons v vs ih =>
    intro a zs r h
    rcases zs with _ | ⟨z, zs⟩
    · simp at h
    · have e : (a ++ z :: zs ++ r).set a.length v = (a ++ [v]) ++ zs ++ r := by
        simp [List.set_append_right]
      have := ih (a ++ [v]) zs r (by simpa using h)
      rw [setMany, e]
      simp only [List.length_append, List.length_singleton] at this
      rw [this]; simp

theorem fillC_step {α : Type} (f : α → List Value) (z : List Value) (m : Nat) (hf : ∀ x, (f x).length = m) (hz : z.length = m) (xs : List α) (n k : Nat) (hl : xs.length = n) (hk : k < n) (hk' : k < xs.length) :
    setMany (fillC f z xs n k) (k * m) (f xs[k]) = fillC f z xs n (k + 1) := by
  have e1 : ((xs.take k).flatMap f).length = k * m := by rw [flat_len f m hf, List.length_take]; rw [Nat.min_eq_left (by omega)]
  have e2 : List.replicate (n - k) z = z :: List.replicate (n - (k + 1)) z := by
    rw [← List.replicate_succ]; congr 1; omega
  unfold fillC
  rw [e2, List.flatten_cons, ← List.append_assoc, ← e1, setMany_mid _ _ _ _ (by rw [hz, hf]), List.take_succ_eq_append_getElem hk', List.flatMap_append]
  simp

theorem fillC_len {α : Type} (f : α → List Value) (z : List Value) (m : Nat) (hf : ∀ x, (f x).length = m) (hz : z.length = m) (xs : List α) (n k : Nat) (hl : xs.length = n) (hk : k ≤ n) : (fillC f z xs n k).length = n * m := by
  unfold fillC
  rw [List.length_append, flat_len f m hf, List.length_take, Nat.min_eq_left (by omega), List.length_flatten, List.map_replicate, List.sum_replicate_nat, hz, ← Nat.add_mul]
  congr 1; omega

theorem fillC_all {α : Type} (f : α → List Value) (z : List Value) (xs : List α) (n : Nat) (hl : xs.length = n) : fillC f z xs n n = xs.flatMap f := by
  unfold fillC
  rw [List.take_of_length_le (by omega), Nat.sub_self]; simp

theorem made_cells (z : List Value) (hz : 0 < z.length) (n : Nat) : (madeCells z.toArray (n * z.length)).toList = (List.replicate n z).flatten := by
  have hfl : ∀ (n i : Nat), i < n * z.length → (List.replicate n z).flatten[i]? = z[i % z.length]? := by
    intro n
    induction n with
    | zero => intro i h; omega
    | succ n ih =>
      intro i h
      rw [List.replicate_succ, List.flatten_cons]
      by_cases hi : i < z.length
      · rw [List.getElem?_append_left hi, Nat.mod_eq_of_lt hi]
      · rw [List.getElem?_append_right (by omega), ih (i - z.length) (by rw [Nat.add_mul] at h; omega), ← Nat.mod_eq_sub_mod (by omega)]
  refine List.ext_getElem? fun i => ?_
  unfold madeCells
  rw [Array.getElem?_toList, Array.getElem?_map]
  by_cases h : i < n * z.length
  · rw [hfl n i h]
    have hm : i % z.length < z.length := Nat.mod_lt _ hz
    simp [h, hm]
  · rw [List.getElem?_eq_none (l := (List.replicate n z).flatten) (by rw [List.length_flatten, List.map_replicate, List.sum_replicate_nat]; omega)]
    simp [h]

theorem stored3 {w : World} {base n g cap : Nat} {e : TypeId} {cs : List Value} {size : Nat} (h : w.ownsRow base e size (.slice (some ⟨g, 0, none⟩) n cap) n cs) (p : Nat) (a b c : Value) :
    (((w.setCell ⟨g, p, none⟩ a).setCell ⟨g, p + 1, none⟩ b).setCell ⟨g, p + 2, none⟩ c).ownsRow base e size (.slice (some ⟨g, 0, none⟩) n cap) n (setMany cs p [a, b, c]) :=
  (((h.stored p a).1.stored (p + 1) b).1.stored (p + 2) c).1
theorem stored4 {w : World} {base n g cap : Nat} {e : TypeId} {cs : List Value} {size : Nat} (h : w.ownsRow base e size (.slice (some ⟨g, 0, none⟩) n cap) n cs) (p : Nat) (a b c d : Value) :
    ((((w.setCell ⟨g, p, none⟩ a).setCell ⟨g, p + 1, none⟩ b).setCell ⟨g, p + 2, none⟩ c).setCell ⟨g, p + 3, none⟩ d).ownsRow base e size (.slice (some ⟨g, 0, none⟩) n cap) n (setMany cs p [a, b, c, d]) :=
  ((((h.stored p a).1.stored (p + 1) b).1.stored (p + 2) c).1.stored (p + 3) d).1
theorem grown_none {w w' : World} (h : Below w.heap.size w w') (row : Option Nat) : w.grownBy w' row := ⟨h.os, h.tape, h.output, h.size, fun i hi _ => h.block i hi⟩
theorem own_below {w w' : World} {base size n : Nat} {e : TypeId} {v : Value} {cs : List Value} (h : w.ownsRow base e size v n cs) (hb : Below w.heap.size w w') : w'.ownsRow base e size v n cs := by
  refine h.kept (grown_none hb (some w.heap.size)) ?_
  rcases hv : v.ownBlock with _ | k
  · exact .inl rfl
  · refine .inr (fun e => ?_)
    injection e with e
    have := (h.lt k hv).2; omega

/-- the cells of one element of a row of the call's own -/
theorem own_cells {w : World} {base size n g k : Nat} {e : TypeId} {cs : List Value} {cap : Nat} (h : w.ownsRow base e size (.slice (some ⟨g, 0, none⟩) n cap) n cs) (hk : k < n) (j : Nat) (hj : j < size) :
    ∃ u, w.cell? ⟨g, k * size + j, none⟩ = some u ∧ w.frozen? ⟨g, k * size + j, none⟩ = false := by
  have hlt : k * size + j < n * size := by
    have : (k + 1) * size ≤ n * size := Nat.mul_le_mul_right _ hk
    rw [Nat.add_mul] at this; omega
  refine ⟨cs[k * size + j]'(by rw [h.1]; exact hlt), ?_, h.frozenAt _⟩
  rw [h.cellAt _ hlt, List.getElem?_eq_getElem]

theorem run_make_rowN {P : Program} (t e : TypeId) (i : TypeInfo) (z : Value) (ht : P.underlying t = some (.slice e)) (hi : P.info? e = some i) (hz : i.zero = some z)
    (n : Nat) (hbytes : i.bytes * n ≤ 281474976710656) (h63 : n ≤ maxLen) (w : World) :
    (Instr.makeSlice t (.int .i64 (n : Int)) (.int .i64 (n : Int))).run P w = .ok (.slice (some ⟨w.heap.size, 0, none⟩) n n) (w.alloc (.cells (madeCells z.cells (n * i.size)) e)) := by
  have hb : (i.bytes : Int) * (n : Int) ≤ 281474976710656 := by
    have h : ((i.bytes * n : Nat) : Int) ≤ 281474976710656 := by omega
    rwa [Int.natCast_mul] at h
  have hr := run_make (P := P) w t e i z ht hi hz .i64 .i64 n n (by omega) (Int.le_refl _) hb (by unfold maxLen at h63; omega)
  simp only [Int.toNat_natCast] at hr
  exact hr

end Go.Proofs.Ytgnhanbdfohjaaa

namespace Go.Proofs.Ytgnhanbdfohjaaa
set_option linter.unusedVariables false
set_option linter.unusedSimpArgs false
open Go.RowKit

/-- what the laws ask of a slice type t over the element type e -/
structure ElemT (P : Program) (t e : TypeId) (z : Value) (size bytes : Nat) : Prop where
  under : P.underlying t = some (.slice e)
  info : (P.info? e).map (fun i => (i.zero, i.size, i.bytes)) = some (some z, size, bytes)
  cells : z.cells.size = size
  pos : 0 < size

theorem run_app {P : Program} {w : World} {t e ty : TypeId} {z : Value} {size bytes base n m c lo hi : Nat} {A : Option Addr} {v : Value} {cs news : List Value} (E : ElemT P t e z size bytes)
    (hown : w.ownsRow base e size v n cs) (hr : Rd w lo hi A news) (hl : news.length = m * size) (h1 : ∀ u ∈ news, u.oneCell' = true) (h63 : n + m ≤ maxLen) (hbytes : (n + m) * bytes ≤ 140737488355328) (hbase : base ≤ w.heap.size) :
    ∃ v' w', (Builtin.append_ #[t, t] ty #[v, .slice A m c]).run P w = .ok v' w' ∧ w'.ownsRow base e size v' (n + m) (cs ++ news) ∧ w.grownBy w' v.ownBlock := by
  obtain ⟨i, hi, hz, hz1, hz2⟩ := info_parts E.info
  by_cases hne : news = []
  · subst hne
    have hm : m = 0 := by
      rcases Nat.eq_zero_or_pos m with h0 | h0
      · exact h0
      · have := Nat.mul_pos h0 E.pos
        simp at hl; omega
    subst hm
    rcases A with _ | ad
    · refine ⟨v, w, ?_, by simpa using hown, World.grownBy.refl w _⟩
      rcases hown.2 with ⟨rfl, rfl⟩ | ⟨g, cap, cur, rfl, _, _, hnc, _⟩
      · simp [Builtin.append_, run_underlying E.under, sizeOf, typeInfo, hi, Builtin.lenOf, Builtin.firstCells]
      · simp [Builtin.append_, run_underlying E.under, sizeOf, typeInfo, hi, Builtin.lenOf, Builtin.firstCells, hnc, storeCells]
    · obtain ⟨v', w', hrun, h2, h3, _⟩ := run_append_own (P := P) w base t ty e i z size bytes E.under hi hz hz1 hz2 E.cells E.pos v n cs hown ad 0 c [] (by simp) (by simp) (by simp) h63 hbytes hbase
      exact ⟨v', w', hrun, h2, h3⟩
  · obtain ⟨b, o, rfl, _, _, hc⟩ := hr hne
    obtain ⟨v', w', hrun, h2, h3, _⟩ := run_append_own (P := P) w base t ty e i z size bytes E.under hi hz hz1 hz2 E.cells E.pos v n cs hown ⟨b, o, none⟩ m c news hl (fun j u hu => by
      have e2 : (⟨b, o, none⟩ : Addr).add j = ⟨b, o + j, none⟩ := by
        unfold Addr.add
        by_cases hj : j = 0 <;> simp [hj]
      rw [e2]; exact hc j u hu) h1 h63 hbytes hbase
    exact ⟨v', w', hrun, h2, h3⟩

theorem wpList_app {P : Program} {w : World} {ops : Array Oper} {rest : List Oper} {o : Oper} {a : Act} {Q : Exit → Act → World → Prop} {s x : Operand} {t e : TypeId} {z : Value} {size bytes base n m c lo hi : Nat} {A : Option Addr} {v : Value} {cs news : List Value}
    (E : ElemT P t e z size bytes) (hown : w.ownsRow base e size v n cs) (hr : Rd w lo hi A news) (hl : news.length = m * size) (h1 : ∀ u ∈ news, u.oneCell' = true) (h63 : n + m ≤ maxLen) (hbytes : (n + m) * bytes ≤ 140737488355328) (hbase : base ≤ w.heap.size)
    (hgd : Region.wanted o (yielded ops a.tmps) = true) (ho : o.op = .call { callee := .builtin .append, args := #[s, x], argTypes := #[t, t] }) (hs : a.eval s = v) (hx : a.eval x = .slice A m c)
    (h : ∀ v' w', w'.ownsRow base e size v' (n + m) (cs ++ news) → w.grownBy w' v.ownBlock → wpList P ops Q rest (a.put o.dst v') w') : wpList P ops Q (o :: rest) a w :=
  wpList_step fun K hK => by
    rw [if_pos hgd]
    obtain ⟨v', w', hr, h2, h3⟩ := run_app (P := P) (ty := o.type) (c := c) E hown hr hl h1 h63 hbytes hbase
    unfold Oper.wp execOp
    simp only [ho, resolve, invoke, builtin, Sem.run_bind, Sem.run_pure, Result.andThen_ok, List.map_toArray, List.map_cons, List.map_nil, hs, hx, hr]
    exact hK _ _ (h v' w' h2 h3)

/-- a block that was just made -/
theorem rd_new (w : World) (cs : List Value) (e : TypeId) : Rd (w.alloc (.cells cs.toArray e)) w.heap.size (w.heap.size + 1) (some ⟨w.heap.size, 0, none⟩) cs := fun _ =>
  ⟨w.heap.size, 0, rfl, Nat.le_refl _, Nat.lt_succ_self _, fun j u hu => by
    rw [cell_of_row (w.alloc (.cells cs.toArray e)) w.heap.size (0 + j) _ _ _ (heap_alloc_new w _)]
    simpa using hu⟩

theorem below_app {C base e size n : Nat} {w wr w' : World} {v : Value} {cs : List Value} (hb : Below C w wr) (hC : C ≤ base) (hbase : base ≤ wr.heap.size) (hown : wr.ownsRow base e size v n cs) (hg : wr.grownBy w' v.ownBlock) : Below C w w' :=
  hb.grown hg (by omega) (fun k hk => by have := (hown.lt k hk).1; omega)
theorem own_nil_lit (w : World) (e : TypeId) (size : Nat) : (w.alloc (.cells #[] e)).ownsRow w.heap.size e size (.slice (some ⟨w.heap.size, 0, none⟩) 0 0) 0 [] := by
  simpa using World.ownsRow_lit (e := e) (size := size) w #[] 0 (Nat.le_refl _) (Nat.zero_le _) (by simp)
theorem own_kept_row {w w' : World} {base e size n g : Nat} {v : Value} {cs : List Value} (h : w.ownsRow base e size v n cs) (hg : w.grownBy w' (some g)) (hlt : g < base) : w'.ownsRow base e size v n cs :=
  h.kept hg (by
    rcases hv : v.ownBlock with _ | k
    · exact .inl rfl
    · refine .inr (fun e => ?_)
      injection e with e
      have := (h.lt k hv).1; omega)
theorem below_row {C g : Nat} {w wr w' : World} (hb : Below C w wr) (hC : C ≤ wr.heap.size) (hg : wr.grownBy w' (some g)) (hlt : C ≤ g) : Below C w w' :=
  hb.grown hg hC (fun k hk => by injection hk with hk; omega)

end Go.Proofs.Ytgnhanbdfohjaaa

namespace Go.Proofs.Ytgnhanbdfohjaaa
set_option linter.unusedVariables false
set_option linter.unusedSimpArgs false
open Go.RowKit

theorem rd_newn {w : World} {n : Nat} (h : w.heap.size = n) (cs : List Value) (e : TypeId) : Rd (w.alloc (.cells cs.toArray e)) n (n + 1) (some ⟨n, 0, none⟩) cs := by
  subst h; exact rd_new w cs e

theorem run_app_at {P : Program} {w : World} {t e ty : TypeId} {z : Value} {size bytes base n m c lo hi : Nat} {A : Option Addr} {v : Value} {cs news : List Value} (E : ElemT P t e z size bytes)
    (hown : w.ownsRow base e size v n cs) (hr : Rd w lo hi A news) (hl : news.length = m * size) (h1 : ∀ u ∈ news, u.oneCell' = true) (h63 : n + m ≤ maxLen) (hbytes : (n + m) * bytes ≤ 140737488355328) (hbase : base ≤ w.heap.size) :
    ∃ v' w', (Builtin.append_ #[t, t] ty #[v, .slice A m c]).run P w = .ok v' w' ∧ w'.ownsRow base e size v' (n + m) (cs ++ news) ∧ w.grownBy w' v.ownBlock ∧ (v'.ownBlock = v.ownBlock ∨ v'.ownBlock = some w.heap.size) := by
  obtain ⟨i, hi, hz, hz1, hz2⟩ := info_parts E.info
  by_cases hne : news = []
  · subst hne
    have hm : m = 0 := by
      rcases Nat.eq_zero_or_pos m with h0 | h0
      · exact h0
      · have := Nat.mul_pos h0 E.pos
        simp at hl; omega
    subst hm
    rcases A with _ | ad
    · refine ⟨v, w, ?_, by simpa using hown, World.grownBy.refl w _, .inl rfl⟩
      rcases hown.2 with ⟨rfl, rfl⟩ | ⟨g, cap, cur, rfl, _, _, hnc, _⟩
      · simp [Builtin.append_, run_underlying E.under, sizeOf, typeInfo, hi, Builtin.lenOf, Builtin.firstCells]
      · simp [Builtin.append_, run_underlying E.under, sizeOf, typeInfo, hi, Builtin.lenOf, Builtin.firstCells, hnc, storeCells]
    · obtain ⟨v', w', hrun, h2, h3, _, h5⟩ := run_append_own_at (P := P) w base t ty e i z size bytes E.under hi hz hz1 hz2 E.cells E.pos v n cs hown ad 0 c [] (by simp) (by simp) (by simp) h63 hbytes hbase
      exact ⟨v', w', hrun, h2, h3, h5⟩
  · obtain ⟨b, o, rfl, _, _, hc⟩ := hr hne
    obtain ⟨v', w', hrun, h2, h3, _, h5⟩ := run_append_own_at (P := P) w base t ty e i z size bytes E.under hi hz hz1 hz2 E.cells E.pos v n cs hown ⟨b, o, none⟩ m c news hl (fun j u hu => by
      have e2 : (⟨b, o, none⟩ : Addr).add j = ⟨b, o + j, none⟩ := by
        unfold Addr.add
        by_cases hj : j = 0 <;> simp [hj]
      rw [e2]; exact hc j u hu) h1 h63 hbytes hbase
    exact ⟨v', w', hrun, h2, h3, h5⟩

theorem wpList_app_at {P : Program} {w : World} {ops : Array Oper} {rest : List Oper} {o : Oper} {a : Act} {Q : Exit → Act → World → Prop} {s x : Operand} {t e : TypeId} {z : Value} {size bytes base n m c lo hi : Nat} {A : Option Addr} {v : Value} {cs news : List Value}
    (E : ElemT P t e z size bytes) (hown : w.ownsRow base e size v n cs) (hr : Rd w lo hi A news) (hl : news.length = m * size) (h1 : ∀ u ∈ news, u.oneCell' = true) (h63 : n + m ≤ maxLen) (hbytes : (n + m) * bytes ≤ 140737488355328) (hbase : base ≤ w.heap.size)
    (hgd : Region.wanted o (yielded ops a.tmps) = true) (ho : o.op = .call { callee := .builtin .append, args := #[s, x], argTypes := #[t, t] }) (hs : a.eval s = v) (hx : a.eval x = .slice A m c)
    (h : ∀ v' w', w'.ownsRow base e size v' (n + m) (cs ++ news) → w.grownBy w' v.ownBlock → (v'.ownBlock = v.ownBlock ∨ v'.ownBlock = some w.heap.size) → wpList P ops Q rest (a.put o.dst v') w') : wpList P ops Q (o :: rest) a w :=
  wpList_step fun K hK => by
    rw [if_pos hgd]
    obtain ⟨v', w', hr, h2, h3, h5⟩ := run_app_at (P := P) (ty := o.type) (c := c) E hown hr hl h1 h63 hbytes hbase
    unfold Oper.wp execOp
    simp only [ho, resolve, invoke, builtin, Sem.run_bind, Sem.run_pure, Result.andThen_ok, List.map_toArray, List.map_cons, List.map_nil, hs, hx, hr]
    exact hK _ _ (h v' w' h2 h3 h5)

theorem step_app_at {P : Program} {w : World} {ops : Array Oper} {o : Oper} {a : Act} {K : Act → World → Prop} {Q : Exit → Act → World → Prop} {E' : Prop} {s x : Operand} {t e : TypeId} {z : Value} {size bytes base n m c lo hi : Nat} {A : Option Addr} {v : Value} {cs news : List Value}
    (E : ElemT P t e z size bytes) (hown : w.ownsRow base e size v n cs) (hr : Rd w lo hi A news) (hl : news.length = m * size) (h1 : ∀ u ∈ news, u.oneCell' = true) (h63 : n + m ≤ maxLen) (hbytes : (n + m) * bytes ≤ 140737488355328) (hbase : base ≤ w.heap.size)
    (hgd : o.guard = none) (ho : o.op = .call { callee := .builtin .append, args := #[s, x], argTypes := #[t, t] }) (hs : a.eval s = v) (hx : a.eval x = .slice A m c)
    (h : ∀ v' w', w'.ownsRow base e size v' (n + m) (cs ++ news) → w.grownBy w' v.ownBlock → (v'.ownBlock = v.ownBlock ∨ v'.ownBlock = some w.heap.size) → K (a.put o.dst v') w') :
    if Region.wanted o (yielded ops a.tmps) = true then Oper.wp P o a w K Q else E' := by
  have hw : Region.wanted o (yielded ops a.tmps) = true := by simp [Region.wanted, hgd]
  rw [if_pos hw]
  obtain ⟨v', w', hr, h2, h3, h5⟩ := run_app_at (P := P) (ty := o.type) (c := c) E hown hr hl h1 h63 hbytes hbase
  unfold Oper.wp execOp
  simp only [ho, resolve, invoke, builtin, Sem.run_bind, Sem.run_pure, Result.andThen_ok, List.map_toArray, List.map_cons, List.map_nil, hs, hx, hr]
  exact h _ _ h2 h3 h5

end Go.Proofs.Ytgnhanbdfohjaaa

namespace Go.Proofs.Ytgnhanbdfohjaaa
set_option linter.unusedVariables false
set_option linter.unusedSimpArgs false
open Go.RowKit

theorem step_app {P : Program} {w : World} {ops : Array Oper} {o : Oper} {a : Act} {K : Act → World → Prop} {Q : Exit → Act → World → Prop} {E' : Prop} {s x : Operand} {t e : TypeId} {z : Value} {size bytes base n m c lo hi : Nat} {A : Option Addr} {v : Value} {cs news : List Value}
    (E : ElemT P t e z size bytes) (hown : w.ownsRow base e size v n cs) (hr : Rd w lo hi A news) (hl : news.length = m * size) (h1 : ∀ u ∈ news, u.oneCell' = true) (h63 : n + m ≤ maxLen) (hbytes : (n + m) * bytes ≤ 140737488355328) (hbase : base ≤ w.heap.size)
    (hgd : o.guard = none) (ho : o.op = .call { callee := .builtin .append, args := #[s, x], argTypes := #[t, t] }) (hs : a.eval s = v) (hx : a.eval x = .slice A m c)
    (h : ∀ v' w', w'.ownsRow base e size v' (n + m) (cs ++ news) → w.grownBy w' v.ownBlock → K (a.put o.dst v') w') :
    if Region.wanted o (yielded ops a.tmps) = true then Oper.wp P o a w K Q else E' := by
  have hw : Region.wanted o (yielded ops a.tmps) = true := by simp [Region.wanted, hgd]
  rw [if_pos hw]
  obtain ⟨v', w', hr, h2, h3⟩ := run_app (P := P) (ty := o.type) (c := c) E hown hr hl h1 h63 hbytes hbase
  unfold Oper.wp execOp
  simp only [ho, resolve, invoke, builtin, Sem.run_bind, Sem.run_pure, Result.andThen_ok, List.map_toArray, List.map_cons, List.map_nil, hs, hx, hr]
  exact h _ _ h2 h3

end Go.Proofs.Ytgnhanbdfohjaaa

namespace Go.Proofs.Ytgnhanbdfohjaaa
set_option linter.unusedVariables false
set_option linter.unusedSimpArgs false
open Go.RowKit

/-- flat elements in blocks from lo on -/
def FlH {α : Type} (f : α → List Value) (w : World) (lo : Nat) (A : Option Addr) (n : Nat) (xs : List α) : Prop := Fl f w lo w.heap.size A n xs
section
variable {α : Type} {f : α → List Value} {w w' : World} {lo lo' C n : Nat} {A : Option Addr} {xs : List α}
theorem FlH.below (h : FlH f w lo A n xs) (hb : Below C w w') (hC : w.heap.size ≤ C) (hs : w.heap.size ≤ w'.heap.size) : FlH f w' lo A n xs := (Fl.below h hb hC).more (Nat.le_refl _) hs
theorem FlH.bel (h : FlH f w lo A n xs) (hb : Below w.heap.size w w') : FlH f w' lo A n xs := h.below hb (Nat.le_refl _) hb.size
theorem FlH.drewN (h : FlH f w lo A n xs) (k : Nat) : FlH f (w.drewN k) lo A n xs := h
theorem FlH.alloc (h : FlH f w lo A n xs) (o : Obj) : FlH f (w.alloc o) lo A n xs := (Fl.alloc h (Nat.le_refl _) o).more (Nat.le_refl _) (by simp)
theorem FlH.grown (h : FlH f w lo A n xs) {row : Option Nat} (hg : w.grownBy w' row) (hr : ∀ g, row = some g → g < lo) : FlH f w' lo A n xs := (Fl.grown h hg (Nat.le_refl _) fun g e => .inl (hr g e)).more (Nat.le_refl _) hg.size
theorem FlH.low (h : FlH f w lo A n xs) (hl : lo' ≤ lo) : FlH f w lo' A n xs := Fl.more h hl (Nat.le_refl _)
theorem FlH.nil (f : α → List Value) (w : World) (lo : Nat) (A : Option Addr) : FlH f w lo A 0 [] := Fl.nil _ _ _ _ _
end

/-- a record, with the row of its updates -/
structure RecC where
  kind : Int
  txn : Int
  A : Option Addr
  n : Nat
  c : Nat
  us : List Upd
def RecC.ab (r : RecC) : Rec := ⟨r.kind, r.txn, r.us⟩
/-- a record's cells -/
def cr (r : RecC) : List Value := [.int .i64 r.kind, .int .i64 r.txn, .slice r.A r.n r.c]
theorem cr_len (r : RecC) : (cr r).length = 3 := rfl
def rv (r : RecC) : Value := .agg #[.int .i64 r.kind, .int .i64 r.txn, .slice r.A r.n r.c]
/-- its updates lie in memory -/
def RecIn (w : World) (lo : Nat) (r : RecC) : Prop := FlH cu w lo r.A r.n r.us ∧ r.n ≤ r.c ∧ r.c ≤ 9223372036854775807
theorem RecIn.bd {w : World} {lo : Nat} {r : RecC} (h : RecIn w lo r) : r.n ≤ 9223372036854775807 := Nat.le_trans h.2.1 h.2.2
/-- records in memory -/
def Recs (w : World) (lo : Nat) (A : Option Addr) (n : Nat) (rs : List RecC) : Prop := FlH cr w lo A n rs ∧ ∀ r ∈ rs, RecIn w lo r
def abs (rs : List RecC) : List Rec := rs.map RecC.ab
theorem abs_len (rs : List RecC) : (abs rs).length = rs.length := List.length_map _
theorem abs_take (rs : List RecC) (k : Nat) : abs (rs.take k) = (abs rs).take k := List.map_take
section
variable {w w' : World} {lo lo' C n : Nat} {A : Option Addr} {rs : List RecC} {r : RecC}
theorem RecIn.bel (h : RecIn w lo r) (hb : Below w.heap.size w w') : RecIn w' lo r := ⟨h.1.bel hb, h.2⟩
theorem RecIn.drewN (h : RecIn w lo r) (k : Nat) : RecIn (w.drewN k) lo r := h
theorem RecIn.alloc (h : RecIn w lo r) (o : Obj) : RecIn (w.alloc o) lo r := ⟨h.1.alloc o, h.2⟩
theorem RecIn.grown (h : RecIn w lo r) {row : Option Nat} (hg : w.grownBy w' row) (hr : ∀ g, row = some g → g < lo) : RecIn w' lo r := ⟨h.1.grown hg hr, h.2⟩
theorem RecIn.low (h : RecIn w lo r) (hl : lo' ≤ lo) : RecIn w lo' r := ⟨h.1.low hl, h.2⟩
theorem Recs.nil (w : World) (lo : Nat) (A : Option Addr) : Recs w lo A 0 [] := ⟨FlH.nil _ _ _ _, fun r hr => by cases hr⟩
theorem Recs.bel (h : Recs w lo A n rs) (hb : Below w.heap.size w w') : Recs w' lo A n rs := ⟨h.1.bel hb, fun r hr => (h.2 r hr).bel hb⟩
theorem Recs.drewN (h : Recs w lo A n rs) (k : Nat) : Recs (w.drewN k) lo A n rs := h
theorem Recs.alloc (h : Recs w lo A n rs) (o : Obj) : Recs (w.alloc o) lo A n rs := ⟨h.1.alloc o, fun r hr => (h.2 r hr).alloc o⟩
theorem Recs.grown (h : Recs w lo A n rs) {row : Option Nat} (hg : w.grownBy w' row) (hr : ∀ g, row = some g → g < lo) : Recs w' lo A n rs := ⟨h.1.grown hg hr, fun r hq => (h.2 r hq).grown hg hr⟩
theorem Recs.low (h : Recs w lo A n rs) (hl : lo' ≤ lo) : Recs w lo' A n rs := ⟨h.1.low hl, fun r hr => (h.2 r hr).low hl⟩
theorem Fl.take {α : Type} {f : α → List Value} {hi : Nat} {xs : List α} (h : Fl f w lo hi A n xs) {k : Nat} (hk : k ≤ n) : Fl f w lo hi A k (xs.take k) := by
  refine ⟨by rw [List.length_take, h.1]; omega, fun hne => ?_⟩
  have e : xs.flatMap f = (xs.take k).flatMap f ++ (xs.drop k).flatMap f := by rw [← List.flatMap_append, List.take_append_drop]
  obtain ⟨b, o, h1, h2, h3, hc⟩ := h.2 (by rw [e]; intro h; exact hne (List.append_eq_nil_iff.1 h).1)
  refine ⟨b, o, h1, h2, h3, fun j u hu => hc j u ?_⟩
  rw [e, List.getElem?_append_left (List.getElem?_eq_some_iff.1 hu).1]; exact hu
theorem Recs.take (h : Recs w lo A n rs) {k : Nat} (hk : k ≤ n) : Recs w lo A k (rs.take k) := ⟨Fl.take h.1 hk, fun r hr => h.2 r (List.mem_of_mem_take hr)⟩
theorem Recs.at_ (h : Recs w lo A n rs) {k : Nat} (hk : k < n) :
    ∃ (b o : Nat) (hl : k < rs.length), A = some ⟨b, o, none⟩ ∧ lo ≤ b ∧ b < w.heap.size ∧ w.cell? ⟨b, o + k * 3, none⟩ = some (.int .i64 rs[k].kind) ∧ w.cell? ⟨b, o + k * 3 + 1, none⟩ = some (.int .i64 rs[k].txn) ∧
      w.cell? ⟨b, o + k * 3 + 2, none⟩ = some (.slice rs[k].A rs[k].n rs[k].c) ∧ RecIn w lo rs[k] := by
  obtain ⟨b, o, hl, rfl, g1, g2, hc⟩ := Fl.at_ h.1 cr_len (by omega) hk
  exact ⟨b, o, hl, rfl, g1, g2, hc 0 _ rfl, hc 1 _ rfl, hc 2 _ rfl, h.2 _ (List.getElem_mem hl)⟩
end

end Go.Proofs.Ytgnhanbdfohjaaa
