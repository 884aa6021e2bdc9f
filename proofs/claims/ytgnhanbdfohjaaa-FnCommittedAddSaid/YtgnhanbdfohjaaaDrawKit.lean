/-
  Plain words for draws: what a draw leaves, and how it is handed on. No condition.
-/
import Derived.Test.YtgnhanbdfohjaaaPick
import Derived.Test.YtgnhanbdfohjaaaK3
import Derived.Deep.DeepCutAuto
namespace Go.Proofs.Ytgnhanbdfohjaaa
set_option linter.unusedVariables false
set_option linter.unusedSimpArgs false
open Go.RowKit

theorem grown_tr {a b c : World} {row : Option Nat} (h : a.grownBy b row) (k : b.grownBy c row) : a.grownBy c row :=
  ⟨k.os.trans h.os, k.tape.trans h.tape, k.output.trans h.output, Nat.le_trans h.size k.size, fun i hi hne => (k.block i (Nat.lt_of_lt_of_le hi h.size) hne).trans (h.block i hi hne)⟩
theorem grown_alloc {a b : World} {row : Option Nat} (h : a.grownBy b row) (o : Obj) : a.grownBy (b.alloc o) row := grown_tr h (World.grownBy_alloc b o row)
/-- what a draw leaves: nothing but the reader g has turned below, and the reader's place is at most K -/
def DrawT (w wr : World) (g K : Nat) : Prop := w.grownBy wr (some g) ∧ Rdr wr g K
theorem DrawT.refl {w : World} {g K : Nat} (h : Rdr w g K) : DrawT w w g K := ⟨World.grownBy.refl w _, h⟩
theorem DrawT.step {w wr w' : World} {g K K' : Nat} (h : DrawT w wr g K) (hg : wr.grownBy w' (some g)) (hR : Rdr w' g K') : DrawT w w' g K' := ⟨grown_tr h.1 hg, hR⟩
theorem DrawT.alloc {w wr : World} {g K : Nat} (h : DrawT w wr g K) (o : Obj) : DrawT w (wr.alloc o) g K := ⟨grown_alloc h.1 o, h.2.alloc o⟩
theorem DrawT.more {w wr : World} {g K K' : Nat} (h : DrawT w wr g K) (hK : K ≤ K') : DrawT w wr g K' := ⟨h.1, h.2.more hK⟩
theorem DrawT.tr {w wr w' : World} {g K K' : Nat} (h : DrawT w wr g K) (h' : DrawT wr w' g K') : DrawT w w' g K' := ⟨grown_tr h.1 h'.1, h'.2⟩
theorem DrawT.setCell {w wr : World} {g K : Nat} (h : DrawT w wr g K) {p : Addr} (hp : w.heap.size ≤ p.block) (hg : g < w.heap.size) (u : Value) : DrawT w (wr.setCell p u) g K := by
  refine ⟨⟨h.1.os, h.1.tape, h.1.output, by simpa [World.setCell] using h.1.size, fun i hi hne => (Below.heap_setCell wr p u i (by omega)).trans (h.1.block i hi hne)⟩, ?_⟩
  obtain ⟨A, n, c, q, bs, h1, h2, h3, h4, h5⟩ := h.2
  exact ⟨A, n, c, q, bs, h1, h2, (Below.heap_setCell wr p u g (by omega)).trans h3, h4.setCell (.inr (by omega)) u, h5⟩
theorem DrawT.drewN {w wr : World} {g K : Nat} (h : DrawT w wr g K) (n : Nat) : DrawT w (wr.drewN n) g K := ⟨⟨h.1.os, h.1.tape, h.1.output, h.1.size, h.1.block⟩, h.2⟩

theorem DrawT.own {w wr w' : World} {g K n size : Nat} {e : TypeId} {v : Value} {cs : List Value} (hg0 : g < w.heap.size) (h : DrawT w wr g K) (hown : wr.ownsRow w.heap.size e size v n cs) (hg : wr.grownBy w' v.ownBlock) : DrawT w w' g K := by
  refine ⟨⟨hg.os.trans h.1.os, hg.tape.trans h.1.tape, hg.output.trans h.1.output, Nat.le_trans h.1.size hg.size, fun i hi hne => ?_⟩, h.2.grown hg (fun q hq => by have := (hown.lt q hq).1; omega)⟩
  refine (hg.block i (Nat.lt_of_lt_of_le hi h.1.size) (fun e => ?_)).trans (h.1.block i hi hne)
  have := (hown.lt i e.symm).1; omega
/-- a row of k flat elements of the call's own, behind a reader in block g -/
def RowS {α : Type} (f : α → List Value) (t : TypeId) (size : Nat) (w wr : World) (g k K : Nat) (v : Value) : Prop :=
  ∃ vs : List α, vs.length = k ∧ wr.ownsRow w.heap.size t size v k (vs.flatMap f) ∧ DrawT w wr g K
section
variable {α : Type} {f : α → List Value} {t : TypeId} {size : Nat} {w wr w' : World} {g k K K' : Nat} {v v' : Value}
theorem RowS.row (hg0 : g < w.heap.size) (h : RowS f t size w wr g k K v) (h' : DrawT wr w' g K') : RowS f t size w w' g k K' v := by
  obtain ⟨vs, h1, h3, h4⟩ := h
  exact ⟨vs, h1, own_kept_row h3 h'.1 hg0, h4.tr h'⟩
theorem RowS.more (h : RowS f t size w wr g k K v) (hK : K ≤ K') : RowS f t size w wr g k K' v := by
  obtain ⟨vs, h1, h3, h4⟩ := h
  exact ⟨vs, h1, h3, h4.more hK⟩
theorem RowS.drw (h : RowS f t size w wr g k K v) : DrawT w wr g K := h.choose_spec.2.2
theorem RowS.rdr (h : RowS f t size w wr g k K v) : Rdr wr g K := h.drw.2
theorem RowS.alloc (h : RowS f t size w wr g k K v) (o : Obj) : RowS f t size w (wr.alloc o) g k K v := by
  obtain ⟨vs, h1, h3, h4⟩ := h
  exact ⟨vs, h1, h3.alloc o, h4.alloc o⟩
theorem RowS.app {vs xs : List α} {m : Nat} {ob : Obj} (hg0 : g < w.heap.size) (h1 : vs.length = k) (h3 : wr.ownsRow w.heap.size t size v k (vs.flatMap f)) (h4 : DrawT w wr g K) (hx : xs.length = m)
    (hown : w'.ownsRow w.heap.size t size v' (k + m) (vs.flatMap f ++ xs.flatMap f)) (hg : (wr.alloc ob).grownBy w' v.ownBlock) : RowS f t size w w' g (k + m) K v' := by
  rw [← List.flatMap_append] at hown
  exact ⟨vs ++ xs, by simp [h1, hx], hown, (h4.alloc ob).own hg0 (h3.alloc ob) hg⟩
/-- a cut of a row, from its head on -/
theorem own_cut {base n c j : Nat} {e : TypeId} {A : Option Addr} {cs : List Value} (h : w.ownsRow base e size (.slice A n c) n cs) (hj : j ≤ n) : w.ownsRow base e size (.slice A j c) j (cs.take (j * size)) := by
  obtain ⟨h1, h⟩ := h
  have hle : j * size ≤ n * size := Nat.mul_le_mul_right _ hj
  refine ⟨by rw [List.length_take, h1]; omega, ?_⟩
  rcases h with ⟨h, rfl⟩ | ⟨q, cap, cur, hv, hb, hh, hn, hm, hs, ht⟩
  · left
    injection h with hA _ hc
    subst hA hc
    have : j = 0 := by omega
    subst this; simp
  · right
    injection hv with hA _ hc
    subst hA hc
    exact ⟨q, _, cur, rfl, hb, hh, by omega, hm, hs, by rw [← ht, List.take_take]; congr 1; omega⟩
theorem flat_take (hf : ∀ x, (f x).length = size) (vs : List α) (j : Nat) : (vs.flatMap f).take (j * size) = (vs.take j).flatMap f := by
  induction vs generalizing j with
  | nil => simp
  | cons x vs ih =>
    rcases j with _ | j
    · simp
    · rw [List.flatMap_cons, List.take_succ_cons, List.flatMap_cons, Nat.add_mul, Nat.one_mul, Nat.add_comm, List.take_append, hf, List.take_of_length_le (by rw [hf]; omega), Nat.add_sub_cancel_left, ih]
theorem RowS.cut {A : Option Addr} {c j : Nat} (hf : ∀ x, (f x).length = size) (h : RowS f t size w wr g k K (.slice A k c)) (hj : j ≤ k) : RowS f t size w wr g j K (.slice A j c) := by
  obtain ⟨vs, h1, h3, h4⟩ := h
  have := own_cut h3 hj
  rw [flat_take hf] at this
  exact ⟨vs.take j, by rw [List.length_take]; omega, this, h4⟩

/-- the same, with the box p of an element that is being drawn -/
def BoxS (f : α → List Value) (t : TypeId) (size : Nat) (w wr : World) (g k K p : Nat) (v : Value) (x : α) : Prop :=
  wr.heap[p]? = some (.cells (f x).toArray t (0, 0)) ∧ RowS f t size w wr g k K v ∧ (∀ q, v.ownBlock = some q → q < p) ∧ w.heap.size ≤ p
theorem BoxS.mk_ (h : RowS f t size w wr g k K v) (x : α) : BoxS f t size w (wr.alloc (.cells (f x).toArray t)) g k K wr.heap.size v x := by
  refine ⟨heap_alloc_new wr _, h.alloc _, fun q hq => ?_, h.drw.1.size⟩
  obtain ⟨vs, h1, h3, h4⟩ := h
  exact (h3.lt q hq).2
theorem BoxS.lt {p : Nat} {x : α} (h : BoxS f t size w wr g k K p v x) : p < wr.heap.size := by
  obtain ⟨h, _⟩ := h
  rcases Nat.lt_or_ge p wr.heap.size with hlt | hge
  · exact hlt
  · rw [Array.getElem?_eq_none hge] at h; cases h
theorem BoxS.draw {p : Nat} {x : α} (hg0 : g < w.heap.size) (h : BoxS f t size w wr g k K p v x) (h' : DrawT wr w' g K') : BoxS f t size w w' g k K' p v x := by
  have hl := h.lt
  obtain ⟨h2, h3, h4, h5⟩ := h
  exact ⟨(h'.1.block p hl (fun e => by injection e with e; omega)).trans h2, h3.row hg0 h', h4, h5⟩
theorem BoxS.more {p : Nat} {x : α} (h : BoxS f t size w wr g k K p v x) (hK : K ≤ K') : BoxS f t size w wr g k K' p v x := ⟨h.1, h.2.1.more hK, h.2.2⟩
theorem BoxS.cell {p j : Nat} {x : α} {u : Value} (h : BoxS f t size w wr g k K p v x) (hj : (f x)[j]? = some u) : wr.cell? ⟨p, j, none⟩ = some u ∧ wr.frozen? ⟨p, j, none⟩ = false := by
  refine ⟨?_, frozen_of_row wr p _ _ _ h.1⟩
  rw [cell_of_row wr p j _ _ _ h.1]; simpa using hj
theorem BoxS.set {p j : Nat} {x y : α} {u : Value} (hg0 : g < w.heap.size) (h : BoxS f t size w wr g k K p v x) (hy : (f x).set j u = f y) : BoxS f t size w (wr.setCell ⟨p, j, none⟩ u) g k K p v y := by
  obtain ⟨h2, ⟨vs, a1, a3, a4⟩, h4, h5⟩ := h
  refine ⟨?_, ⟨vs, a1, a3.kept (row := some p) ⟨rfl, rfl, rfl, by simp [World.setCell], fun i hi hne => Below.heap_setCell _ _ _ _ (fun e => hne (by rw [e]))⟩ ?_, a4.setCell h5 hg0 u⟩, h4, h5⟩
  · rw [heap_setCell_same wr p j _ _ _ h2]
    simp [hy]
  · rcases hv : v.ownBlock with _ | q
    · exact .inl rfl
    · refine .inr (fun e => ?_)
      injection e with e
      have := h4 q hv; omega
end
theorem Fl.draw {α : Type} {f : α → List Value} {w w' : World} {lo hi n g K : Nat} {A : Option Addr} {xs : List α} (h : Fl f w lo hi A n xs) (hd : DrawT w w' g K) (hh : hi ≤ w.heap.size) (hg : g < lo) : Fl f w' lo hi A n xs :=
  h.grown hd.1 hh (fun q hq => by injection hq with hq; omega)

end Go.Proofs.Ytgnhanbdfohjaaa
