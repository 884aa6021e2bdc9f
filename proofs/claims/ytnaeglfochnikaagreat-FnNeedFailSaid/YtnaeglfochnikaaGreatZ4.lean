/-
  append onto a row of the call's own from any readable source; how readings and readers are kept across it. Plain laws over any program; no condition but the bounds that each names.
  Plain words for a slice that is made and then filled, element by element; make's own equation; the law's end. No condition.
  Plain words for draws: what a draw leaves, and how it is handed on. No condition.
  The walks of l91Text, l91Ops and DrawDeltaApply: a short text; at most three operations in new memory. Condition: the reader's place is small.
-/
import Derived.Test.YtnaeglfochnikaaGreatZ1
import Derived.Laws.AppendOwn
import Derived.Laws.OwnMore
import Derived.Deep.AppendLies
import Derived.OwnWalk
import Derived.Laws.MakeOwn
import Derived.Test.YtnaeglfochnikaaGreatPick
import Derived.Deep.DeepCutAuto
import Derived.Test.YtnaeglfochnikaaGreatZ2
import Derived.Deep.CutBlock
import Derived.Laws.BytesString
namespace Go.Proofs.YtnaeglfochnikaaGreat
set_option linter.unusedVariables false
set_option linter.unusedSimpArgs false
open Go.RowKit

/-- what the laws ask of a slice type t over the element type e -/
structure ElemT (P : Program) (t e : TypeId) (z : Value) (size bytes : Nat) : Prop where
  under : P.underlying t = some (.slice e)
  info : (P.info? e).map (fun i => (i.zero, i.size, i.bytes)) = some (some z, size, bytes)
  cells : z.cells.size = size
  pos : 0 < size

theorem run_app {P : Program} {w : World} {t e ty : TypeId} {z : Value} {size bytes base n m c lo hi : Nat} {A : Option Addr} {v : Value} {cs news : List Value} (E : ElemT P t e z size bytes)
    (hown : w.ownsRow base e size v n cs) (hr : Rd w lo hi A news) (hl : news.length = m * size) (h1 : ∀ u ∈ news, u.oneCell' = true) (h63 : n + m ≤ maxLen) (hbytes : (n + m) * bytes ≤ 140737488355328) (hbase : base ≤ w.heap.size) :
    ∃ v' w', (Builtin.append_ #[t, t] ty #[v, .slice A m c]).run P w = .ok v' w' ∧ w'.ownsRow base e size v' (n + m) (cs ++ news) ∧ w.grownBy w' v.ownBlock := by
  obtain ⟨i, hi, hz, hz1, hz2⟩ := info_parts E.info
  by_cases hne : news = []
  · subst hne
    have hm : m = 0 := by
      rcases Nat.eq_zero_or_pos m with h0 | h0
      · exact h0
      · have := Nat.mul_pos h0 E.pos
        simp at hl; omega
    subst hm
    rcases A with _ | ad
    · refine ⟨v, w, ?_, by simpa using hown, World.grownBy.refl w _⟩
      rcases hown.2 with ⟨rfl, rfl⟩ | ⟨g, cap, cur, rfl, _, _, hnc, _⟩
      · simp [Builtin.append_, run_underlying E.under, sizeOf, typeInfo, hi, Builtin.lenOf, Builtin.firstCells]
      · simp [Builtin.append_, run_underlying E.under, sizeOf, typeInfo, hi, Builtin.lenOf, Builtin.firstCells, hnc, storeCells]
    · obtain ⟨v', w', hrun, h2, h3, _⟩ := run_append_own (P := P) w base t ty e i z size bytes E.under hi hz hz1 hz2 E.cells E.pos v n cs hown ad 0 c [] (by simp) (by simp) (by simp) h63 hbytes hbase
      exact ⟨v', w', hrun, h2, h3⟩
  · obtain ⟨b, o, rfl, _, _, hc⟩ := hr hne
    obtain ⟨v', w', hrun, h2, h3, _⟩ := run_append_own (P := P) w base t ty e i z size bytes E.under hi hz hz1 hz2 E.cells E.pos v n cs hown ⟨b, o, none⟩ m c news hl (fun j u hu => by
      have e2 : (⟨b, o, none⟩ : Addr).add j = ⟨b, o + j, none⟩ := by
        unfold Addr.add
        by_cases hj : j = 0 <;> simp [hj]
      rw [e2]; exact hc j u hu) h1 h63 hbytes hbase
    exact ⟨v', w', hrun, h2, h3⟩

theorem wpList_app {P : Program} {w : World} {ops : Array Oper} {rest : List Oper} {o : Oper} {a : Act} {Q : Exit → Act → World → Prop} {s x : Operand} {t e : TypeId} {z : Value} {size bytes base n m c lo hi : Nat} {A : Option Addr} {v : Value} {cs news : List Value}
    (E : ElemT P t e z size bytes) (hown : w.ownsRow base e size v n cs) (hr : Rd w lo hi A news) (hl : news.length = m * size) (h1 : ∀ u ∈ news, u.oneCell' = true) (h63 : n + m ≤ maxLen) (hbytes : (n + m) * bytes ≤ 140737488355328) (hbase : base ≤ w.heap.size)
    (hgd : Region.wanted o (yielded ops a.tmps) = true) (ho : o.op = .call { callee := .builtin .append, args := #[s, x], argTypes := #[t, t] }) (hs : a.eval s = v) (hx : a.eval x = .slice A m c)
    (h : ∀ v' w', w'.ownsRow base e size v' (n + m) (cs ++ news) → w.grownBy w' v.ownBlock → wpList P ops Q rest (a.put o.dst v') w') : wpList P ops Q (o :: rest) a w :=
  wpList_step fun K hK => by
    rw [if_pos hgd]
    obtain ⟨v', w', hr, h2, h3⟩ := run_app (P := P) (ty := o.type) (c := c) E hown hr hl h1 h63 hbytes hbase
    unfold Oper.wp execOp
    simp only [ho, resolve, invoke, builtin, Sem.run_bind, Sem.run_pure, Result.andThen_ok, List.map_toArray, List.map_cons, List.map_nil, hs, hx, hr]
    exact hK _ _ (h v' w' h2 h3)

/-- a block that was just made -/
theorem rd_new (w : World) (cs : List Value) (e : TypeId) : Rd (w.alloc (.cells cs.toArray e)) w.heap.size (w.heap.size + 1) (some ⟨w.heap.size, 0, none⟩) cs := fun _ =>
  ⟨w.heap.size, 0, rfl, Nat.le_refl _, Nat.lt_succ_self _, fun j u hu => by
    rw [cell_of_row (w.alloc (.cells cs.toArray e)) w.heap.size (0 + j) _ _ _ (heap_alloc_new w _)]
    simpa using hu⟩

theorem below_app {C base e size n : Nat} {w wr w' : World} {v : Value} {cs : List Value} (hb : Below C w wr) (hC : C ≤ base) (hbase : base ≤ wr.heap.size) (hown : wr.ownsRow base e size v n cs) (hg : wr.grownBy w' v.ownBlock) : Below C w w' :=
  hb.grown hg (by omega) (fun k hk => by have := (hown.lt k hk).1; omega)
theorem own_nil_lit (w : World) (e : TypeId) (size : Nat) : (w.alloc (.cells #[] e)).ownsRow w.heap.size e size (.slice (some ⟨w.heap.size, 0, none⟩) 0 0) 0 [] := by
  simpa using World.ownsRow_lit (e := e) (size := size) w #[] 0 (Nat.le_refl _) (Nat.zero_le _) (by simp)
theorem own_kept_row {w w' : World} {base e size n g : Nat} {v : Value} {cs : List Value} (h : w.ownsRow base e size v n cs) (hg : w.grownBy w' (some g)) (hlt : g < base) : w'.ownsRow base e size v n cs :=
  h.kept hg (by
    rcases hv : v.ownBlock with _ | k
    · exact .inl rfl
    · refine .inr (fun e => ?_)
      injection e with e
      have := (h.lt k hv).1; omega)
theorem below_row {C g : Nat} {w wr w' : World} (hb : Below C w wr) (hC : C ≤ wr.heap.size) (hg : wr.grownBy w' (some g)) (hlt : C ≤ g) : Below C w w' :=
  hb.grown hg hC (fun k hk => by injection hk with hk; omega)

end Go.Proofs.YtnaeglfochnikaaGreat

namespace Go.Proofs.YtnaeglfochnikaaGreat
set_option linter.unusedVariables false
set_option linter.unusedSimpArgs false
open Go.RowKit

/-- the cells of the first k elements, and n - k zero elements behind them -/
def fillC {α : Type} (f : α → List Value) (z : List Value) (xs : List α) (n k : Nat) : List Value := (xs.take k).flatMap f ++ (List.replicate (n - k) z).flatten

def setMany : List Value → Nat → List Value → List Value
  | l, _, [] => l
  | l, p, v :: vs => setMany (l.set p v) (p + 1) vs

theorem setMany_mid (vs : List Value) : ∀ (a zs r : List Value), zs.length = vs.length → setMany (a ++ zs ++ r) a.length vs = a ++ vs ++ r := by
  induction vs with
  | nil => intro a zs r h; have : zs = [] := List.eq_nil_of_length_eq_zero h; subst this; simp [setMany]
  | cons v vs ih =>
    intro a zs r h
    rcases zs with _ | ⟨z, zs⟩
    · simp at h
    · have e : (a ++ z :: zs ++ r).set a.length v = (a ++ [v]) ++ zs ++ r := by
        simp [List.set_append_right]
      have := ih (a ++ [v]) zs r (by simpa using h)
      rw [setMany, e]
      simp only [List.length_append, List.length_singleton] at this
      rw [this]; simp

theorem fillC_step {α : Type} (f : α → List Value) (z : List Value) (m : Nat) (hf : ∀ x, (f x).length = m) (hz : z.length = m) (xs : List α) (n k : Nat) (hl : xs.length = n) (hk : k < n) (hk' : k < xs.length) :
    setMany (fillC f z xs n k) (k * m) (f xs[k]) = fillC f z xs n (k + 1) := by
  have e1 : ((xs.take k).flatMap f).length = k * m := by rw [flat_len f m hf, List.length_take]; rw [Nat.min_eq_left (by omega)]
  have e2 : List.replicate (n - k) z = z :: List.replicate (n - (k + 1)) z := by
    rw [← List.replicate_succ]; congr 1; omega
  unfold fillC
  rw [e2, List.flatten_cons, ← List.append_assoc, ← e1, setMany_mid _ _ _ _ (by rw [hz, hf]), List.take_succ_eq_append_getElem hk', List.flatMap_append]
  simp

theorem fillC_len {α : Type} (f : α → List Value) (z : List Value) (m : Nat) (hf : ∀ x, (f x).length = m) (hz : z.length = m) (xs : List α) (n k : Nat) (hl : xs.length = n) (hk : k ≤ n) : (fillC f z xs n k).length = n * m := by
  unfold fillC
  rw [List.length_append, flat_len f m hf, List.length_take, Nat.min_eq_left (by omega), List.length_flatten, List.map_replicate, List.sum_replicate_nat, hz, ← Nat.add_mul]
  congr 1; omega

theorem fillC_all {α : Type} (f : α → List Value) (z : List Value) (xs : List α) (n : Nat) (hl : xs.length = n) : fillC f z xs n n = xs.flatMap f := by
  unfold fillC
  rw [List.take_of_length_le (by omega), Nat.sub_self]; simp

theorem made_cells (z : List Value) (hz : 0 < z.length) (n : Nat) : (madeCells z.toArray (n * z.length)).toList = (List.replicate n z).flatten := by
  have hfl : ∀ (n i : Nat), i < n * z.length → (List.replicate n z).flatten[i]? = z[i % z.length]? := by
    intro n
    induction n with
    | zero => intro i h; omega
    | succ n ih =>
      intro i h
      rw [List.replicate_succ, List.flatten_cons]
      by_cases hi : i < z.length
      · rw [List.getElem?_append_left hi, Nat.mod_eq_of_lt hi]
      · rw [List.getElem?_append_right (by omega), ih (i - z.length) (by rw [Nat.add_mul] at h; omega), ← Nat.mod_eq_sub_mod (by omega)]
  refine List.ext_getElem? fun i => ?_
  unfold madeCells
  rw [Array.getElem?_toList, Array.getElem?_map]
  by_cases h : i < n * z.length
  · rw [hfl n i h]
    have hm : i % z.length < z.length := Nat.mod_lt _ hz
    simp [h, hm]
  · rw [List.getElem?_eq_none (l := (List.replicate n z).flatten) (by rw [List.length_flatten, List.map_replicate, List.sum_replicate_nat]; omega)]
    simp [h]

theorem stored3 {w : World} {base n g cap : Nat} {e : TypeId} {cs : List Value} {size : Nat} (h : w.ownsRow base e size (.slice (some ⟨g, 0, none⟩) n cap) n cs) (p : Nat) (a b c : Value) :
    (((w.setCell ⟨g, p, none⟩ a).setCell ⟨g, p + 1, none⟩ b).setCell ⟨g, p + 2, none⟩ c).ownsRow base e size (.slice (some ⟨g, 0, none⟩) n cap) n (setMany cs p [a, b, c]) :=
  (((h.stored p a).1.stored (p + 1) b).1.stored (p + 2) c).1
theorem stored4 {w : World} {base n g cap : Nat} {e : TypeId} {cs : List Value} {size : Nat} (h : w.ownsRow base e size (.slice (some ⟨g, 0, none⟩) n cap) n cs) (p : Nat) (a b c d : Value) :
    ((((w.setCell ⟨g, p, none⟩ a).setCell ⟨g, p + 1, none⟩ b).setCell ⟨g, p + 2, none⟩ c).setCell ⟨g, p + 3, none⟩ d).ownsRow base e size (.slice (some ⟨g, 0, none⟩) n cap) n (setMany cs p [a, b, c, d]) :=
  ((((h.stored p a).1.stored (p + 1) b).1.stored (p + 2) c).1.stored (p + 3) d).1
theorem grown_none {w w' : World} (h : Below w.heap.size w w') (row : Option Nat) : w.grownBy w' row := ⟨h.os, h.tape, h.output, h.size, fun i hi _ => h.block i hi⟩
theorem own_below {w w' : World} {base size n : Nat} {e : TypeId} {v : Value} {cs : List Value} (h : w.ownsRow base e size v n cs) (hb : Below w.heap.size w w') : w'.ownsRow base e size v n cs := by
  refine h.kept (grown_none hb (some w.heap.size)) ?_
  rcases hv : v.ownBlock with _ | k
  · exact .inl rfl
  · refine .inr (fun e => ?_)
    injection e with e
    have := (h.lt k hv).2; omega

/-- the cells of one element of a row of the call's own -/
theorem own_cells {w : World} {base size n g k : Nat} {e : TypeId} {cs : List Value} {cap : Nat} (h : w.ownsRow base e size (.slice (some ⟨g, 0, none⟩) n cap) n cs) (hk : k < n) (j : Nat) (hj : j < size) :
    ∃ u, w.cell? ⟨g, k * size + j, none⟩ = some u ∧ w.frozen? ⟨g, k * size + j, none⟩ = false := by
  have hlt : k * size + j < n * size := by
    have : (k + 1) * size ≤ n * size := Nat.mul_le_mul_right _ hk
    rw [Nat.add_mul] at this; omega
  refine ⟨cs[k * size + j]'(by rw [h.1]; exact hlt), ?_, h.frozenAt _⟩
  rw [h.cellAt _ hlt, List.getElem?_eq_getElem]

theorem run_make_rowN {P : Program} (t e : TypeId) (i : TypeInfo) (z : Value) (ht : P.underlying t = some (.slice e)) (hi : P.info? e = some i) (hz : i.zero = some z)
    (n : Nat) (hbytes : i.bytes * n ≤ 281474976710656) (h63 : n ≤ maxLen) (w : World) :
    (Instr.makeSlice t (.int .i64 (n : Int)) (.int .i64 (n : Int))).run P w = .ok (.slice (some ⟨w.heap.size, 0, none⟩) n n) (w.alloc (.cells (madeCells z.cells (n * i.size)) e)) := by
  have hb : (i.bytes : Int) * (n : Int) ≤ 281474976710656 := by
    have h : ((i.bytes * n : Nat) : Int) ≤ 281474976710656 := by omega
    rwa [Int.natCast_mul] at h
  have hr := run_make (P := P) w t e i z ht hi hz .i64 .i64 n n (by omega) (Int.le_refl _) hb (by unfold maxLen at h63; omega)
  simp only [Int.toNat_natCast] at hr
  exact hr

end Go.Proofs.YtnaeglfochnikaaGreat

namespace Go.Proofs.YtnaeglfochnikaaGreat
set_option linter.unusedVariables false
set_option linter.unusedSimpArgs false
open Go.RowKit

theorem grown_tr {a b c : World} {row : Option Nat} (h : a.grownBy b row) (k : b.grownBy c row) : a.grownBy c row :=
  ⟨k.os.trans h.os, k.tape.trans h.tape, k.output.trans h.output, Nat.le_trans h.size k.size, fun i hi hne => (k.block i (Nat.lt_of_lt_of_le hi h.size) hne).trans (h.block i hi hne)⟩
theorem grown_alloc {a b : World} {row : Option Nat} (h : a.grownBy b row) (o : Obj) : a.grownBy (b.alloc o) row := grown_tr h (World.grownBy_alloc b o row)
/-- what a draw leaves: nothing but the reader g has turned below, and the reader's place is at most K -/
def DrawT (w wr : World) (g K : Nat) : Prop := w.grownBy wr (some g) ∧ Rdr wr g K
theorem DrawT.refl {w : World} {g K : Nat} (h : Rdr w g K) : DrawT w w g K := ⟨World.grownBy.refl w _, h⟩
theorem DrawT.step {w wr w' : World} {g K K' : Nat} (h : DrawT w wr g K) (hg : wr.grownBy w' (some g)) (hR : Rdr w' g K') : DrawT w w' g K' := ⟨grown_tr h.1 hg, hR⟩
theorem DrawT.alloc {w wr : World} {g K : Nat} (h : DrawT w wr g K) (o : Obj) : DrawT w (wr.alloc o) g K := ⟨grown_alloc h.1 o, h.2.alloc o⟩
theorem DrawT.more {w wr : World} {g K K' : Nat} (h : DrawT w wr g K) (hK : K ≤ K') : DrawT w wr g K' := ⟨h.1, h.2.more hK⟩
theorem DrawT.tr {w wr w' : World} {g K K' : Nat} (h : DrawT w wr g K) (h' : DrawT wr w' g K') : DrawT w w' g K' := ⟨grown_tr h.1 h'.1, h'.2⟩
theorem DrawT.setCell {w wr : World} {g K : Nat} (h : DrawT w wr g K) {p : Addr} (hp : w.heap.size ≤ p.block) (hg : g < w.heap.size) (u : Value) : DrawT w (wr.setCell p u) g K := by
  refine ⟨⟨h.1.os, h.1.tape, h.1.output, by simpa [World.setCell] using h.1.size, fun i hi hne => (Below.heap_setCell wr p u i (by omega)).trans (h.1.block i hi hne)⟩, ?_⟩
  obtain ⟨A, n, c, q, bs, h1, h2, h3, h4, h5⟩ := h.2
  exact ⟨A, n, c, q, bs, h1, h2, (Below.heap_setCell wr p u g (by omega)).trans h3, h4.setCell (.inr (by omega)) u, h5⟩
theorem DrawT.drewN {w wr : World} {g K : Nat} (h : DrawT w wr g K) (n : Nat) : DrawT w (wr.drewN n) g K := ⟨⟨h.1.os, h.1.tape, h.1.output, h.1.size, h.1.block⟩, h.2⟩

theorem DrawT.own {w wr w' : World} {g K n size : Nat} {e : TypeId} {v : Value} {cs : List Value} (hg0 : g < w.heap.size) (h : DrawT w wr g K) (hown : wr.ownsRow w.heap.size e size v n cs) (hg : wr.grownBy w' v.ownBlock) : DrawT w w' g K := by
  refine ⟨⟨hg.os.trans h.1.os, hg.tape.trans h.1.tape, hg.output.trans h.1.output, Nat.le_trans h.1.size hg.size, fun i hi hne => ?_⟩, h.2.grown hg (fun q hq => by have := (hown.lt q hq).1; omega)⟩
  refine (hg.block i (Nat.lt_of_lt_of_le hi h.1.size) (fun e => ?_)).trans (h.1.block i hi hne)
  have := (hown.lt i e.symm).1; omega
/-- a row of k flat elements of the call's own, behind a reader in block g -/
def RowS {α : Type} (f : α → List Value) (t : TypeId) (size : Nat) (w wr : World) (g k K : Nat) (v : Value) : Prop :=
  ∃ vs : List α, vs.length = k ∧ wr.ownsRow w.heap.size t size v k (vs.flatMap f) ∧ DrawT w wr g K
section
variable {α : Type} {f : α → List Value} {t : TypeId} {size : Nat} {w wr w' : World} {g k K K' : Nat} {v v' : Value}
theorem RowS.row (hg0 : g < w.heap.size) (h : RowS f t size w wr g k K v) (h' : DrawT wr w' g K') : RowS f t size w w' g k K' v := by
  obtain ⟨vs, h1, h3, h4⟩ := h
  exact ⟨vs, h1, own_kept_row h3 h'.1 hg0, h4.tr h'⟩
theorem RowS.more (h : RowS f t size w wr g k K v) (hK : K ≤ K') : RowS f t size w wr g k K' v := by
  obtain ⟨vs, h1, h3, h4⟩ := h
  exact ⟨vs, h1, h3, h4.more hK⟩
theorem RowS.drw (h : RowS f t size w wr g k K v) : DrawT w wr g K := h.choose_spec.2.2
theorem RowS.rdr (h : RowS f t size w wr g k K v) : Rdr wr g K := h.drw.2
theorem RowS.alloc (h : RowS f t size w wr g k K v) (o : Obj) : RowS f t size w (wr.alloc o) g k K v := by
  obtain ⟨vs, h1, h3, h4⟩ := h
  exact ⟨vs, h1, h3.alloc o, h4.alloc o⟩
theorem RowS.app {vs xs : List α} {m : Nat} {ob : Obj} (hg0 : g < w.heap.size) (h1 : vs.length = k) (h3 : wr.ownsRow w.heap.size t size v k (vs.flatMap f)) (h4 : DrawT w wr g K) (hx : xs.length = m)
    (hown : w'.ownsRow w.heap.size t size v' (k + m) (vs.flatMap f ++ xs.flatMap f)) (hg : (wr.alloc ob).grownBy w' v.ownBlock) : RowS f t size w w' g (k + m) K v' := by
  rw [← List.flatMap_append] at hown
  exact ⟨vs ++ xs, by simp [h1, hx], hown, (h4.alloc ob).own hg0 (h3.alloc ob) hg⟩
/-- a cut of a row, from its head on -/
theorem own_cut {base n c j : Nat} {e : TypeId} {A : Option Addr} {cs : List Value} (h : w.ownsRow base e size (.slice A n c) n cs) (hj : j ≤ n) : w.ownsRow base e size (.slice A j c) j (cs.take (j * size)) := by
  obtain ⟨h1, h⟩ := h
  have hle : j * size ≤ n * size := Nat.mul_le_mul_right _ hj
  refine ⟨by rw [List.length_take, h1]; omega, ?_⟩
  rcases h with ⟨h, rfl⟩ | ⟨q, cap, cur, hv, hb, hh, hn, hm, hs, ht⟩
  · left
    injection h with hA _ hc
    subst hA hc
    have : j = 0 := by omega
    subst this; simp
  · right
    injection hv with hA _ hc
    subst hA hc
    exact ⟨q, _, cur, rfl, hb, hh, by omega, hm, hs, by rw [← ht, List.take_take]; congr 1; omega⟩
theorem flat_take (hf : ∀ x, (f x).length = size) (vs : List α) (j : Nat) : (vs.flatMap f).take (j * size) = (vs.take j).flatMap f := by
  induction vs generalizing j with
  | nil => simp
  | cons x vs ih =>
    rcases j with _ | j
    · simp
    · rw [List.flatMap_cons, List.take_succ_cons, List.flatMap_cons, Nat.add_mul, Nat.one_mul, Nat.add_comm, List.take_append, hf, List.take_of_length_le (by rw [hf]; omega), Nat.add_sub_cancel_left, ih]
theorem RowS.cut {A : Option Addr} {c j : Nat} (hf : ∀ x, (f x).length = size) (h : RowS f t size w wr g k K (.slice A k c)) (hj : j ≤ k) : RowS f t size w wr g j K (.slice A j c) := by
  obtain ⟨vs, h1, h3, h4⟩ := h
  have := own_cut h3 hj
  rw [flat_take hf] at this
  exact ⟨vs.take j, by rw [List.length_take]; omega, this, h4⟩

/-- the same, with the box p of an element that is being drawn -/
def BoxS (f : α → List Value) (t : TypeId) (size : Nat) (w wr : World) (g k K p : Nat) (v : Value) (x : α) : Prop :=
  wr.heap[p]? = some (.cells (f x).toArray t (0, 0)) ∧ RowS f t size w wr g k K v ∧ (∀ q, v.ownBlock = some q → q < p) ∧ w.heap.size ≤ p
theorem BoxS.mk_ (h : RowS f t size w wr g k K v) (x : α) : BoxS f t size w (wr.alloc (.cells (f x).toArray t)) g k K wr.heap.size v x := by
  refine ⟨heap_alloc_new wr _, h.alloc _, fun q hq => ?_, h.drw.1.size⟩
  obtain ⟨vs, h1, h3, h4⟩ := h
  exact (h3.lt q hq).2
theorem BoxS.lt {p : Nat} {x : α} (h : BoxS f t size w wr g k K p v x) : p < wr.heap.size := by
  obtain ⟨h, _⟩ := h
  rcases Nat.lt_or_ge p wr.heap.size with hlt | hge
  · exact hlt
  · rw [Array.getElem?_eq_none hge] at h; cases h
theorem BoxS.draw {p : Nat} {x : α} (hg0 : g < w.heap.size) (h : BoxS f t size w wr g k K p v x) (h' : DrawT wr w' g K') : BoxS f t size w w' g k K' p v x := by
  have hl := h.lt
  obtain ⟨h2, h3, h4, h5⟩ := h
  exact ⟨(h'.1.block p hl (fun e => by injection e with e; omega)).trans h2, h3.row hg0 h', h4, h5⟩
theorem BoxS.more {p : Nat} {x : α} (h : BoxS f t size w wr g k K p v x) (hK : K ≤ K') : BoxS f t size w wr g k K' p v x := ⟨h.1, h.2.1.more hK, h.2.2⟩
theorem BoxS.cell {p j : Nat} {x : α} {u : Value} (h : BoxS f t size w wr g k K p v x) (hj : (f x)[j]? = some u) : wr.cell? ⟨p, j, none⟩ = some u ∧ wr.frozen? ⟨p, j, none⟩ = false := by
  refine ⟨?_, frozen_of_row wr p _ _ _ h.1⟩
  rw [cell_of_row wr p j _ _ _ h.1]; simpa using hj
theorem BoxS.set {p j : Nat} {x y : α} {u : Value} (hg0 : g < w.heap.size) (h : BoxS f t size w wr g k K p v x) (hy : (f x).set j u = f y) : BoxS f t size w (wr.setCell ⟨p, j, none⟩ u) g k K p v y := by
  obtain ⟨h2, ⟨vs, a1, a3, a4⟩, h4, h5⟩ := h
  refine ⟨?_, ⟨vs, a1, a3.kept (row := some p) ⟨rfl, rfl, rfl, by simp [World.setCell], fun i hi hne => Below.heap_setCell _ _ _ _ (fun e => hne (by rw [e]))⟩ ?_, a4.setCell h5 hg0 u⟩, h4, h5⟩
  · rw [heap_setCell_same wr p j _ _ _ h2]
    simp [hy]
  · rcases hv : v.ownBlock with _ | q
    · exact .inl rfl
    · refine .inr (fun e => ?_)
      injection e with e
      have := h4 q hv; omega
end
theorem Fl.draw {α : Type} {f : α → List Value} {w w' : World} {lo hi n g K : Nat} {A : Option Addr} {xs : List α} (h : Fl f w lo hi A n xs) (hd : DrawT w w' g K) (hh : hi ≤ w.heap.size) (hg : g < lo) : Fl f w' lo hi A n xs :=
  h.grown hd.1 hh (fun q hq => by injection hq with hq; omega)

end Go.Proofs.YtnaeglfochnikaaGreat

namespace Go.Proofs.YtnaeglfochnikaaGreat
set_option linter.unusedVariables false
set_option linter.unusedSimpArgs false
open Go.RowKit

theorem conv_one (W : World) (x : Int) : (convert 38 9 (.slice (some ⟨W.heap.size, 0, none⟩) 1 1)).run Tryz.prog (W.alloc (.cells #[.int .u8 x] 5)) = .ok (.string (strOfNums [x])) (W.alloc (.cells #[.int .u8 x] 5)) :=
  run_convert_bytes_arg _ 38 5 Tryz.underlying38 Tryz.underlying5 _ _ 1 1 [x] rfl (fun i hi => by
    have : i = 0 := by omega
    subst this
    rw [cell_of_row _ W.heap.size _ _ _ _ (heap_alloc_new W _)]; rfl) _ Tryz.underlying9

set_option maxHeartbeats 800000 in
theorem l91Text_any (g K : Nat) (w : World) (hK : K ≤ 1000000000 - 20) (h : Rdr w g K) :
    Calls Tryz.prog 99 #[.pointer (some ⟨g, 0, none⟩)] w fun e w' => ∃ s : ByteArray, s.size ≤ 9 ∧ DrawT w w' g (K + 20) ∧ e = .returned (.string s) := by
  have HR := Lib.hid (DrawT.refl h)
  clear h
  go_enter Tryz.func99, Tryz.ntmps99
  go_wp2_with fail
  refine (pick_any g K 9 _ (by omega) HR.out.2).mono ?_
  rintro e w1 ⟨r1, hr1, hR1, hg1, -, rfl⟩
  have HS1 := Lib.hid (HR.out.step hg1 hR1)
  obtain ⟨q1, rfl⟩ := Int.eq_ofNat_of_zero_le hr1.1
  have hq1 := hr1.2 (by omega)
  clear hR1 hg1 hr1 HR
  go_upto_if 10 with (go_at_call 70; refine (pick_any g (K + 1) 24 _ (by omega) HS1.out.2).mono ?_; rintro e w2 ⟨r2, -, hR2, hg2, -, rfl⟩; have HS2 := Lib.hid (HS1.out.step hg2 hR2); clear hR2 hg2 HS1)
  go_cut [4] (fun v wx => ∃ m : Nat, m ≤ 9 ∧ v = .int .i64 m ∧ DrawT w wx g (K + 3))
  case first =>
    by_cases hr0 : r2 = 0
    · have hd : (r2 == 0) = true := by simp [hr0]
      clear hr0
      go_wp2_with fail
      refine (pick_any g (K + 1 + 1) 2 _ (by omega) HS2.out.2).mono ?_
      rintro e w3 ⟨r3, hr3, hR3, hg3, -, rfl⟩
      have HS3 := Lib.hid (HS2.out.step hg3 hR3)
      obtain ⟨q3, rfl⟩ := Int.eq_ofNat_of_zero_le hr3.1
      have hq3 := hr3.2 (by omega)
      clear hR3 hg3 hr3 HS2
      go_wp2_with fail
      go_meet
      exact ⟨8 + q3, by omega, by go_num, HS3.out.more (by omega)⟩
    · have hd : (r2 == 0) = false := by simp [hr0]
      clear hr0
      go_wp2_with fail
      go_meet
      exact ⟨q1, by omega, rfl, HS2.out.more (by omega)⟩
  case rest =>
    clear HS2
    obtain ⟨m, hm, rfl, hS⟩ := hcut
    have HS := Lib.hid hS
    clear hS
    go_wp2_with fail
    go_loopw [3, 5] (fun t i wr => ∃ k : Nat, k ≤ m ∧ i = .int .i64 k ∧ (∃ s : ByteArray, t = .string s ∧ s.size ≤ k) ∧ DrawT w wr g (K + 3 + k)) (fun _ i _ => m - (intOf i).toNat)
    case atStart => exact ⟨0, Nat.zero_le _, rfl, ⟨_, rfl, by decide⟩, HS.out⟩
    case round =>
      obtain ⟨k, hk, rfl, ⟨s, rfl, hs⟩, hS⟩ := hrel
      have HR := Lib.hid hS
      clear hS HS
      by_cases hlt : k < m
      · go_wp2_with fail
        refine (pick_any g (K + 3 + k) 3 _ (by omega) HR.out.2).mono ?_
        rintro e w3 ⟨r3, hr3, hR3, hg3, -, rfl⟩
        have HS3 := Lib.hid (HR.out.step hg3 hR3)
        obtain ⟨q3, rfl⟩ := Int.eq_ofNat_of_zero_le hr3.1
        have hq3 := hr3.2 (by omega)
        clear hR3 hg3 hr3 HR
        have hcv := conv_one w3 (97 + (q3 : Int))
        have hcs : (strOfNums [97 + (q3 : Int)]).size ≤ 1 := by rw [strOfNums_size]; simp
        go_wp2_with fail
        have HS4 := Lib.hid (HS3.out.alloc (.cells #[.int .u8 (97 + (q3 : Int))] 5))
        go_roundw
        case rel => exact ⟨k + 1, by omega, by go_num, ⟨_, rfl, by rw [ByteArray.size_append]; omega⟩, HS4.out⟩
        case measure => simp [intOf]; omega
      · have hkm : k = m := by omega
        subst hkm
        go_wp2_with fail
        go_ret
        exact ⟨s, by omega, HR.out.more (by omega), rfl⟩

theorem Tryz.elOp : ElemT Tryz.prog 58 96 (.agg #[.int .i64 0, .int .i64 0, .string ⟨#[]⟩]) 3 32 := ⟨Tryz.underlying58, by kernel_rfl, rfl, by decide⟩

/-- a row of k operations of the call's own, behind a reader in block g, made from base on -/
def OpsS (w wr : World) (g k K : Nat) (v : Value) : Prop :=
  ∃ vs : List OpD, vs.length = k ∧ (∀ o ∈ vs, o.text.size ≤ 9) ∧ wr.ownsRow w.heap.size 96 3 v k (vs.flatMap co) ∧ DrawT w wr g K
theorem OpsS.row {w wr w' : World} {g k K K' : Nat} {v : Value} (hg0 : g < w.heap.size) (h : OpsS w wr g k K v) (h' : DrawT wr w' g K') : OpsS w w' g k K' v := by
  obtain ⟨vs, h1, h2, h3, h4⟩ := h
  exact ⟨vs, h1, h2, own_kept_row h3 h'.1 hg0, h4.tr h'⟩

theorem OpsS.app {w wr w' : World} {g k K : Nat} {v v' : Value} {vs : List OpD} {o : OpD} {ob : Obj} (hg0 : g < w.heap.size) (h1 : vs.length = k) (h2 : ∀ o ∈ vs, o.text.size ≤ 9) (h3 : wr.ownsRow w.heap.size 96 3 v k (vs.flatMap co)) (h4 : DrawT w wr g K)
    (ho : o.text.size ≤ 9) (hown : w'.ownsRow w.heap.size 96 3 v' (k + 1) (vs.flatMap co ++ co o)) (hg : (wr.alloc ob).grownBy w' v.ownBlock) : OpsS w w' g (k + 1) K v' := by
  refine ⟨vs ++ [o], by simp [h1], fun x hx => ?_, by rw [List.flatMap_append]; simpa using hown, (h4.alloc ob).own hg0 (h3.alloc ob) hg⟩
  rcases List.mem_append.1 hx with hx | hx
  · exact h2 x hx
  · rw [List.mem_singleton.1 hx]; exact ho

/-- the same, with the box p of the operation that is being drawn -/
def OpsB (w wr : World) (g k K p : Nat) (v : Value) : Prop :=
  ∃ o : OpD, o.text.size ≤ 9 ∧ wr.heap[p]? = some (.cells #[.int .i64 o.at_, .int .i64 o.size, .string o.text] 96 (0, 0)) ∧ OpsS w wr g k K v ∧ (∀ q, v.ownBlock = some q → q < p) ∧ w.heap.size ≤ p
theorem OpsB.mk_ {w wr : World} {g k K : Nat} {v : Value} (h : OpsS w wr g k K v) (o : OpD) (ho : o.text.size ≤ 9) :
    OpsB w (wr.alloc (.cells #[.int .i64 o.at_, .int .i64 o.size, .string o.text] 96)) g k K wr.heap.size v := by
  obtain ⟨vs, h1, h2, h3, h4⟩ := h
  exact ⟨o, ho, heap_alloc_new wr _, ⟨vs, h1, h2, h3.alloc _, h4.alloc _⟩, fun q hq => (h3.lt q hq).2, h4.1.size⟩
theorem OpsB.lt {w wr : World} {g k K p : Nat} {v : Value} (h : OpsB w wr g k K p v) : p < wr.heap.size := by
  obtain ⟨o, _, h, _⟩ := h
  rcases Nat.lt_or_ge p wr.heap.size with hlt | hge
  · exact hlt
  · rw [Array.getElem?_eq_none hge] at h; cases h
theorem OpsB.rdr {w wr : World} {g k K p : Nat} {v : Value} (h : OpsB w wr g k K p v) : Rdr wr g K := by
  obtain ⟨_, _, _, ⟨_, _, _, _, h⟩, _⟩ := h
  exact h.2
theorem OpsB.draw {w wr w' : World} {g k K K' p : Nat} {v : Value} (hg0 : g < w.heap.size) (h : OpsB w wr g k K p v) (h' : DrawT wr w' g K') : OpsB w w' g k K' p v := by
  have hl := h.lt
  obtain ⟨o, h1, h2, h3, h4, h5⟩ := h
  exact ⟨o, h1, (h'.1.block p hl (fun e => by injection e with e; omega)).trans h2, h3.row hg0 h', h4, h5⟩
theorem OpsB.more {w wr : World} {g k K K' p : Nat} {v : Value} (h : OpsB w wr g k K p v) (hK : K ≤ K') : OpsB w wr g k K' p v := by
  obtain ⟨o, h1, h2, ⟨vs, a1, a2, a3, a4⟩, h4, h5⟩ := h
  exact ⟨o, h1, h2, ⟨vs, a1, a2, a3, a4.more hK⟩, h4, h5⟩
theorem OpsB.cells {w wr : World} {g k K p : Nat} {v : Value} (h : OpsB w wr g k K p v) : ∃ (a b : Int) (t : ByteArray), t.size ≤ 9 ∧ wr.cell? ⟨p, 0, none⟩ = some (.int .i64 a) ∧ wr.cell? ⟨p, 1, none⟩ = some (.int .i64 b) ∧ wr.cell? ⟨p, 2, none⟩ = some (.string t) ∧
    wr.frozen? ⟨p, 0, none⟩ = false ∧ wr.frozen? ⟨p, 1, none⟩ = false ∧ wr.frozen? ⟨p, 2, none⟩ = false := by
  obtain ⟨o, h1, h2, _⟩ := h
  exact ⟨o.at_, o.size, o.text, h1, cell_of_row wr p 0 _ _ _ h2, cell_of_row wr p 1 _ _ _ h2, cell_of_row wr p 2 _ _ _ h2, frozen_of_row wr p 0 _ _ h2, frozen_of_row wr p 1 _ _ h2, frozen_of_row wr p 2 _ _ h2⟩
theorem OpsB.keep {w wr : World} {g k K p j : Nat} {v u : Value} (hg0 : g < w.heap.size) (h : OpsB w wr g k K p v) : OpsS w (wr.setCell ⟨p, j, none⟩ u) g k K v := by
  obtain ⟨o, h1, h2, ⟨vs, a1, a2, a3, a4⟩, h4, h5⟩ := h
  refine ⟨vs, a1, a2, a3.kept (row := some p) ⟨rfl, rfl, rfl, by simp [World.setCell], fun i hi hne => Below.heap_setCell _ _ _ _ (fun e => hne (by rw [e]))⟩ ?_, a4.setCell h5 hg0 u⟩
  rcases hv : v.ownBlock with _ | q
  · exact .inl rfl
  · refine .inr (fun e => ?_)
    injection e with e
    have := h4 q hv; omega
theorem OpsB.set0 {w wr : World} {g k K p : Nat} {v : Value} (hg0 : g < w.heap.size) (h : OpsB w wr g k K p v) (x : Int) : OpsB w (wr.setCell ⟨p, 0, none⟩ (.int .i64 x)) g k K p v := by
  have h3 := h.keep (j := 0) (u := .int .i64 x) hg0
  obtain ⟨o, h1, h2, _, h4, h5⟩ := h
  exact ⟨⟨x, o.size, o.text⟩, h1, heap_setCell_same wr p 0 _ _ _ h2, h3, h4, h5⟩
theorem OpsB.set1 {w wr : World} {g k K p : Nat} {v : Value} (hg0 : g < w.heap.size) (h : OpsB w wr g k K p v) (x : Int) : OpsB w (wr.setCell ⟨p, 1, none⟩ (.int .i64 x)) g k K p v := by
  have h3 := h.keep (j := 1) (u := .int .i64 x) hg0
  obtain ⟨o, h1, h2, _, h4, h5⟩ := h
  exact ⟨⟨o.at_, x, o.text⟩, h1, heap_setCell_same wr p 1 _ _ _ h2, h3, h4, h5⟩
theorem OpsB.set2 {w wr : World} {g k K p : Nat} {v : Value} (hg0 : g < w.heap.size) (h : OpsB w wr g k K p v) (x : ByteArray) (hx : x.size ≤ 9) : OpsB w (wr.setCell ⟨p, 2, none⟩ (.string x)) g k K p v := by
  have h3 := h.keep (j := 2) (u := .string x) hg0
  obtain ⟨o, h1, h2, _, h4, h5⟩ := h
  exact ⟨⟨o.at_, o.size, x⟩, hx, heap_setCell_same wr p 2 _ _ _ h2, h3, h4, h5⟩

def textSum (xs : List OpD) : Nat := (xs.map fun o => o.text.size).sum
theorem textSum_take_succ {xs : List OpD} {k : Nat} (hk : k < xs.length) : textSum (xs.take (k + 1)) = textSum (xs.take k) + xs[k].text.size := by
  unfold textSum
  rw [List.take_succ_eq_append_getElem hk, List.map_append, List.sum_append]; simp
theorem textSum_le {xs : List OpD} (h : ∀ o ∈ xs, o.text.size ≤ 1000) : textSum xs ≤ 1000 * xs.length := by
  unfold textSum
  induction xs with
  | nil => simp
  | cons x xs ih =>
    have h1 := h x (List.mem_cons_self ..)
    have h2 := ih fun o ho => h o (List.mem_cons_of_mem _ ho)
    simp only [List.map_cons, List.sum_cons, List.length_cons]; omega

set_option maxHeartbeats 400000 in
theorem deltaSize_any (A : Option Addr) (n c : Nat) (xs : List OpD) (w : World) (lo hi : Nat) (hh : hi ≤ w.heap.size) (hn : n ≤ 1000) (h : Fl co w lo hi A n xs) (ht : ∀ o ∈ xs, o.text.size ≤ 1000) :
    Calls Tryz.prog 67 #[.slice A n c] w fun e w' => e = .returned (.int .i64 ((n + textSum xs : Nat) : Int)) ∧ Below w.heap.size w w' := by
  have HI := Lib.hid h
  have HT := Lib.hid ht
  clear h ht
  go_enter Tryz.func67, Tryz.ntmps67
  go_wp2
  go_loopw [3, 10] (fun t i wr => ∃ k : Nat, k ≤ n ∧ i = .int .i64 k ∧ (∃ q : Nat, t = .int .i64 ((n + q : Nat) : Int) ∧ Hid (q = textSum (xs.take k)) ∧ q ≤ 1000 * k) ∧ Below w.heap.size w wr) (fun _ i _ => n - (intOf i).toNat)
  case atStart => exact ⟨0, Nat.zero_le _, rfl, ⟨0, rfl, rfl, by omega⟩, Below.refl _ _⟩
  case round =>
    obtain ⟨k, hk, rfl, ⟨q, rfl, HQ, hq⟩, hb⟩ := hrel
    have HB := Lib.hid hb
    have hwsz := hb.size
    clear hb
    by_cases hlt : k < n
    · obtain ⟨b, o, hl, rfl, _, hbh, hc1, hc2, hc3⟩ := fl_op (HI.out.below HB.out hh) hlt
      have htx := HT.out xs[k] (List.getElem_mem hl)
      have hstep := Lib.hid (textSum_take_succ hl)
      go_wp2
      go_roundw
      case rel => exact ⟨k + 1, by omega, by go_num, ⟨q + xs[k].text.size, by congr 1; omega, by rw [hstep.out, ← HQ.out]; rfl, by omega⟩, HB.out.alloc hwsz _⟩
      case measure => simp [intOf]; omega
    · have hkn : k = n := by omega
      subst hkn
      go_wp2
      go_ret
      have := HQ.out
      rw [List.take_of_length_le (by rw [HI.out.1]; exact Nat.le_refl _)] at this
      exact ⟨ret_int (by rw [← this]), HB.out⟩

theorem fl_drop {α : Type} {f : α → List Value} {m : Nat} (hf : ∀ x, (f x).length = m) (hm : 0 < m) {w : World} {lo hi : Nat} {A : Option Addr} {n k : Nat} {xs : List α} (h : Fl f w lo hi A n xs) (_ : k ≤ n) : Fl f w lo hi (A.map (·.add (k * m))) (n - k) (xs.drop k) := by
  refine ⟨by rw [List.length_drop, h.1], fun hne => ?_⟩
  have hkn : k < n := by
    rcases Nat.lt_or_ge k n with hlt | hge
    · exact hlt
    · rw [List.drop_eq_nil_of_le (by rw [h.1]; exact hge)] at hne; exact absurd rfl hne
  obtain ⟨b, o, hl, rfl, g1, g2, _⟩ := h.at_ hf hm hkn
  refine ⟨b, o + k * m, ?_, g1, g2, fun j u hu => ?_⟩
  · simp only [Option.map_some, Addr.add]
    by_cases h0 : k * m = 0
    · rw [if_pos h0, h0]; rfl
    · rw [if_neg h0]
  · have hjm : j < ((xs.drop k).flatMap f).length := (List.getElem?_eq_some_iff.1 hu).1
    rw [flat_len f m hf, List.length_drop] at hjm
    have hd : j / m < (xs.drop k).length := by rw [List.length_drop]; exact Nat.div_lt_of_lt_mul (by rw [Nat.mul_comm]; exact hjm)
    have e : j = j / m * m + j % m := by rw [Nat.mul_comm]; exact (Nat.div_add_mod j m).symm
    rw [e, flat_get f m hf _ (j / m) hd (j % m) (Nat.mod_lt _ hm)] at hu
    rw [List.length_drop] at hd
    obtain ⟨b', o', hl', hA, _, _, hc⟩ := h.at_ hf hm (k := k + j / m) (by rw [← h.1]; omega)
    simp only [Option.some.injEq, Addr.mk.injEq, and_true] at hA
    obtain ⟨rfl, rfl⟩ := hA
    rw [List.getElem_drop] at hu
    have := hc (j % m) u hu
    rw [show b = b from rfl]
    have e3 : o + k * m + j = o + (k + j / m) * m + j % m := by rw [Nat.add_mul]; omega
    rw [e3]; exact this

theorem fl_drop0 {α : Type} {f : α → List Value} {w : World} {lo hi : Nat} {A A' : Option Addr} {n k : Nat} {xs : List α} (h : Fl f w lo hi A n xs) (hk : n ≤ k) : Fl f w lo hi A' (n - k) (xs.drop k) := by
  rw [List.drop_eq_nil_of_le (by rw [h.1]; exact hk), show n - k = 0 from by omega]; exact Fl.nil _ _ _ _ _

/-- what is left behind the draw of a base and operations -/
def DrawnD (w w' : World) (e : Ending) : Prop :=
  ∃ (s : ByteArray) (A : Option Addr) (n c : Nat) (xs : List OpD), e = .returned (.tuple #[.string s, .slice A n c]) ∧ s.size ≤ 9 ∧ n ≤ 3 ∧ n ≤ c ∧ c ≤ maxLen ∧ Fl co w' w.heap.size w'.heap.size A n xs ∧ (∀ o ∈ xs, o.text.size ≤ 9) ∧ Below w.heap.size w w'

end Go.Proofs.YtnaeglfochnikaaGreat
