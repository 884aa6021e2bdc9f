/-
  Plain words for draws: what a draw leaves, and how it is handed on. No condition.
  The walks of RefsApply, of the program and of the reference: new memory that holds applyL of the refs and the updates. Condition: lengths fit an int64.
  The walks of RefsApply itself, of the program and of the reference. Condition: lengths fit an int64.
  The walks of l92Value, l92Refs, l92Updates, DrawRefsApply and DrawRefsDiffer: short slices in new memory. Condition: the reader's place is small.
-/
import Derived.Test.YtgbkjfhmbchiiaaPick
import Derived.Test.YtgbkjfhmbchiiaaM1
import Derived.Deep.DeepCutAuto
import Derived.Test.YtgbkjfhmbchiiaaRefsV
import Derived.Test.YtgbkjfhmbchiiaaM3
import Derived.Test.YtgbkjfhmbchiiaaM6
import Derived.StillTailTactics
import Derived.Deep.CutBlock
namespace Go.Proofs.Ytgbkjfhmbchiiaa
set_option linter.unusedVariables false
set_option linter.unusedSimpArgs false
open Go.RowKit

theorem grown_tr {a b c : World} {row : Option Nat} (h : a.grownBy b row) (k : b.grownBy c row) : a.grownBy c row :=
  ⟨k.os.trans h.os, k.tape.trans h.tape, k.output.trans h.output, Nat.le_trans h.size k.size, fun i hi hne => (k.block i (Nat.lt_of_lt_of_le hi h.size) hne).trans (h.block i hi hne)⟩
theorem grown_alloc {a b : World} {row : Option Nat} (h : a.grownBy b row) (o : Obj) : a.grownBy (b.alloc o) row := grown_tr h (World.grownBy_alloc b o row)
/-- what a draw leaves: nothing but the reader g has turned below, and the reader's place is at most K -/
def DrawT (w wr : World) (g K : Nat) : Prop := w.grownBy wr (some g) ∧ Rdr wr g K
theorem DrawT.refl {w : World} {g K : Nat} (h : Rdr w g K) : DrawT w w g K := ⟨World.grownBy.refl w _, h⟩
theorem DrawT.step {w wr w' : World} {g K K' : Nat} (h : DrawT w wr g K) (hg : wr.grownBy w' (some g)) (hR : Rdr w' g K') : DrawT w w' g K' := ⟨grown_tr h.1 hg, hR⟩
theorem DrawT.alloc {w wr : World} {g K : Nat} (h : DrawT w wr g K) (o : Obj) : DrawT w (wr.alloc o) g K := ⟨grown_alloc h.1 o, h.2.alloc o⟩
theorem DrawT.more {w wr : World} {g K K' : Nat} (h : DrawT w wr g K) (hK : K ≤ K') : DrawT w wr g K' := ⟨h.1, h.2.more hK⟩
theorem DrawT.tr {w wr w' : World} {g K K' : Nat} (h : DrawT w wr g K) (h' : DrawT wr w' g K') : DrawT w w' g K' := ⟨grown_tr h.1 h'.1, h'.2⟩
theorem DrawT.setCell {w wr : World} {g K : Nat} (h : DrawT w wr g K) {p : Addr} (hp : w.heap.size ≤ p.block) (hg : g < w.heap.size) (u : Value) : DrawT w (wr.setCell p u) g K := by
  refine ⟨⟨h.1.os, h.1.tape, h.1.output, by simpa [World.setCell] using h.1.size, fun i hi hne => (Below.heap_setCell wr p u i (by omega)).trans (h.1.block i hi hne)⟩, ?_⟩
  obtain ⟨A, n, c, q, bs, h1, h2, h3, h4, h5⟩ := h.2
  exact ⟨A, n, c, q, bs, h1, h2, (Below.heap_setCell wr p u g (by omega)).trans h3, h4.setCell (.inr (by omega)) u, h5⟩
theorem DrawT.drewN {w wr : World} {g K : Nat} (h : DrawT w wr g K) (n : Nat) : DrawT w (wr.drewN n) g K := ⟨⟨h.1.os, h.1.tape, h.1.output, h.1.size, h.1.block⟩, h.2⟩

theorem DrawT.own {w wr w' : World} {g K n size : Nat} {e : TypeId} {v : Value} {cs : List Value} (hg0 : g < w.heap.size) (h : DrawT w wr g K) (hown : wr.ownsRow w.heap.size e size v n cs) (hg : wr.grownBy w' v.ownBlock) : DrawT w w' g K := by
  refine ⟨⟨hg.os.trans h.1.os, hg.tape.trans h.1.tape, hg.output.trans h.1.output, Nat.le_trans h.1.size hg.size, fun i hi hne => ?_⟩, h.2.grown hg (fun q hq => by have := (hown.lt q hq).1; omega)⟩
  refine (hg.block i (Nat.lt_of_lt_of_le hi h.1.size) (fun e => ?_)).trans (h.1.block i hi hne)
  have := (hown.lt i e.symm).1; omega
/-- a row of k flat elements of the call's own, behind a reader in block g -/
def RowS {α : Type} (f : α → List Value) (t : TypeId) (size : Nat) (w wr : World) (g k K : Nat) (v : Value) : Prop :=
  ∃ vs : List α, vs.length = k ∧ wr.ownsRow w.heap.size t size v k (vs.flatMap f) ∧ DrawT w wr g K
section
variable {α : Type} {f : α → List Value} {t : TypeId} {size : Nat} {w wr w' : World} {g k K K' : Nat} {v v' : Value}
theorem RowS.row (hg0 : g < w.heap.size) (h : RowS f t size w wr g k K v) (h' : DrawT wr w' g K') : RowS f t size w w' g k K' v := by
  obtain ⟨vs, h1, h3, h4⟩ := h
  exact ⟨vs, h1, own_kept_row h3 h'.1 hg0, h4.tr h'⟩
theorem RowS.more (h : RowS f t size w wr g k K v) (hK : K ≤ K') : RowS f t size w wr g k K' v := by
  obtain ⟨vs, h1, h3, h4⟩ := h
  exact ⟨vs, h1, h3, h4.more hK⟩
theorem RowS.drw (h : RowS f t size w wr g k K v) : DrawT w wr g K := h.choose_spec.2.2
theorem RowS.rdr (h : RowS f t size w wr g k K v) : Rdr wr g K := h.drw.2
theorem RowS.alloc (h : RowS f t size w wr g k K v) (o : Obj) : RowS f t size w (wr.alloc o) g k K v := by
  obtain ⟨vs, h1, h3, h4⟩ := h
  exact ⟨vs, h1, h3.alloc o, h4.alloc o⟩
theorem RowS.app {vs xs : List α} {m : Nat} {ob : Obj} (hg0 : g < w.heap.size) (h1 : vs.length = k) (h3 : wr.ownsRow w.heap.size t size v k (vs.flatMap f)) (h4 : DrawT w wr g K) (hx : xs.length = m)
    (hown : w'.ownsRow w.heap.size t size v' (k + m) (vs.flatMap f ++ xs.flatMap f)) (hg : (wr.alloc ob).grownBy w' v.ownBlock) : RowS f t size w w' g (k + m) K v' := by
  rw [← List.flatMap_append] at hown
  exact ⟨vs ++ xs, by simp [h1, hx], hown, (h4.alloc ob).own hg0 (h3.alloc ob) hg⟩
/-- a cut of a row, from its head on -/
theorem own_cut {base n c j : Nat} {e : TypeId} {A : Option Addr} {cs : List Value} (h : w.ownsRow base e size (.slice A n c) n cs) (hj : j ≤ n) : w.ownsRow base e size (.slice A j c) j (cs.take (j * size)) := by
  obtain ⟨h1, h⟩ := h
  have hle : j * size ≤ n * size := Nat.mul_le_mul_right _ hj
  refine ⟨by rw [List.length_take, h1]; omega, ?_⟩
  rcases h with ⟨h, rfl⟩ | ⟨q, cap, cur, hv, hb, hh, hn, hm, hs, ht⟩
  · left
    injection h with hA _ hc
    subst hA hc
    have : j = 0 := by omega
    subst this; simp
  · right
    injection hv with hA _ hc
    subst hA hc
    exact ⟨q, _, cur, rfl, hb, hh, by omega, hm, hs, by rw [← ht, List.take_take]; congr 1; omega⟩
theorem flat_take (hf : ∀ x, (f x).length = size) (vs : List α) (j : Nat) : (vs.flatMap f).take (j * size) = (vs.take j).flatMap f := by
  induction vs generalizing j with
  | nil => simp
  | cons x vs ih =>
    rcases j with _ | j
    · simp
    · rw [List.flatMap_cons, List.take_succ_cons, List.flatMap_cons, Nat.add_mul, Nat.one_mul, Nat.add_comm, List.take_append, hf, List.take_of_length_le (by rw [hf]; omega), Nat.add_sub_cancel_left, ih]
theorem RowS.cut {A : Option Addr} {c j : Nat} (hf : ∀ x, (f x).length = size) (h : RowS f t size w wr g k K (.slice A k c)) (hj : j ≤ k) : RowS f t size w wr g j K (.slice A j c) := by
  obtain ⟨vs, h1, h3, h4⟩ := h
  have := own_cut h3 hj
  rw [flat_take hf] at this
  exact ⟨vs.take j, by rw [List.length_take]; omega, this, h4⟩

/-- the same, with the box p of an element that is being drawn -/
def BoxS (f : α → List Value) (t : TypeId) (size : Nat) (w wr : World) (g k K p : Nat) (v : Value) (x : α) : Prop :=
  wr.heap[p]? = some (.cells (f x).toArray t (0, 0)) ∧ RowS f t size w wr g k K v ∧ (∀ q, v.ownBlock = some q → q < p) ∧ w.heap.size ≤ p
theorem BoxS.mk_ (h : RowS f t size w wr g k K v) (x : α) : BoxS f t size w (wr.alloc (.cells (f x).toArray t)) g k K wr.heap.size v x := by
  refine ⟨heap_alloc_new wr _, h.alloc _, fun q hq => ?_, h.drw.1.size⟩
  obtain ⟨vs, h1, h3, h4⟩ := h
  exact (h3.lt q hq).2
theorem BoxS.lt {p : Nat} {x : α} (h : BoxS f t size w wr g k K p v x) : p < wr.heap.size := by
  obtain ⟨h, _⟩ := h
  rcases Nat.lt_or_ge p wr.heap.size with hlt | hge
  · exact hlt
  · rw [Array.getElem?_eq_none hge] at h; cases h
theorem BoxS.draw {p : Nat} {x : α} (hg0 : g < w.heap.size) (h : BoxS f t size w wr g k K p v x) (h' : DrawT wr w' g K') : BoxS f t size w w' g k K' p v x := by
  have hl := h.lt
  obtain ⟨h2, h3, h4, h5⟩ := h
  exact ⟨(h'.1.block p hl (fun e => by injection e with e; omega)).trans h2, h3.row hg0 h', h4, h5⟩
theorem BoxS.more {p : Nat} {x : α} (h : BoxS f t size w wr g k K p v x) (hK : K ≤ K') : BoxS f t size w wr g k K' p v x := ⟨h.1, h.2.1.more hK, h.2.2⟩
theorem BoxS.cell {p j : Nat} {x : α} {u : Value} (h : BoxS f t size w wr g k K p v x) (hj : (f x)[j]? = some u) : wr.cell? ⟨p, j, none⟩ = some u ∧ wr.frozen? ⟨p, j, none⟩ = false := by
  refine ⟨?_, frozen_of_row wr p _ _ _ h.1⟩
  rw [cell_of_row wr p j _ _ _ h.1]; simpa using hj
theorem BoxS.set {p j : Nat} {x y : α} {u : Value} (hg0 : g < w.heap.size) (h : BoxS f t size w wr g k K p v x) (hy : (f x).set j u = f y) : BoxS f t size w (wr.setCell ⟨p, j, none⟩ u) g k K p v y := by
  obtain ⟨h2, ⟨vs, a1, a3, a4⟩, h4, h5⟩ := h
  refine ⟨?_, ⟨vs, a1, a3.kept (row := some p) ⟨rfl, rfl, rfl, by simp [World.setCell], fun i hi hne => Below.heap_setCell _ _ _ _ (fun e => hne (by rw [e]))⟩ ?_, a4.setCell h5 hg0 u⟩, h4, h5⟩
  · rw [heap_setCell_same wr p j _ _ _ h2]
    simp [hy]
  · rcases hv : v.ownBlock with _ | q
    · exact .inl rfl
    · refine .inr (fun e => ?_)
      injection e with e
      have := h4 q hv; omega
end
theorem Fl.draw {α : Type} {f : α → List Value} {w w' : World} {lo hi n g K : Nat} {A : Option Addr} {xs : List α} (h : Fl f w lo hi A n xs) (hd : DrawT w w' g K) (hh : hi ≤ w.heap.size) (hg : g < lo) : Fl f w' lo hi A n xs :=
  h.grown hd.1 hh (fun q hq => by injection hq with hq; omega)

end Go.Proofs.Ytgbkjfhmbchiiaa

namespace Go.Proofs.Ytgbkjfhmbchiiaa
set_option linter.unusedVariables false
set_option linter.unusedSimpArgs false
open Go.RowKit

/-- block g holds just these ints -/
def Tab (w : World) (g : Nat) (xs : List Int) : Prop := w.heap[g]? = some (.cells (xs.map (Value.int .i64)).toArray 65 (0, 0))
theorem new_cell (w : World) (cs : Array Value) (e : TypeId) (j : Nat) : (w.alloc (.cells cs e)).cell? ⟨w.heap.size, j, none⟩ = cs[j]? := cell_of_row _ _ _ _ _ _ (heap_alloc_new w _)
theorem Tab.lt {w : World} {g : Nat} {xs : List Int} (h : Tab w g xs) : g < w.heap.size := by
  unfold Tab at h
  rcases Nat.lt_or_ge g w.heap.size with hlt | hge
  · exact hlt
  · rw [Array.getElem?_eq_none hge] at h; cases h
theorem Tab.grown {w w' : World} {g : Nat} {xs : List Int} {row : Option Nat} (h : Tab w g xs) (hg : w.grownBy w' row) (hr : row ≠ some g) : Tab w' g xs :=
  (hg.block g h.lt (fun e => hr e.symm)).trans h
theorem Tab.alloc {w : World} {g : Nat} {xs : List Int} (h : Tab w g xs) (o : Obj) : Tab (w.alloc o) g xs := h.grown (World.grownBy_alloc w o none) (by simp)
theorem Tab.drewN {w : World} {g : Nat} {xs : List Int} (h : Tab w g xs) (n : Nat) : Tab (w.drewN n) g xs := h
theorem Tab.cell {w : World} {g : Nat} {xs : List Int} (h : Tab w g xs) {r : Int} (hl : xs.length = 4) (h0 : 0 ≤ r) (h3 : r ≤ 3) :
    w.cell? ⟨g, r.toNat, none⟩ = some (.int .i64 (getR xs r)) ∧ w.frozen? ⟨g, r.toNat, none⟩ = false := by
  refine ⟨?_, frozen_of_row w g _ _ _ h⟩
  rw [cell_of_row w g r.toNat _ _ _ h]
  unfold getR
  have : r.toNat < xs.length := by omega
  simp [this]
theorem Tab.set {w : World} {g : Nat} {xs : List Int} (h : Tab w g xs) (r : Int) (x : Int) : Tab (w.setCell ⟨g, r.toNat, none⟩ (.int .i64 x)) g (xs.set r.toNat x) := by
  unfold Tab
  rw [heap_setCell_same w g r.toNat _ _ _ h]
  simp [List.map_set]
theorem grown_alloc' {a b : World} {row : Option Nat} (h : a.grownBy b row) (o : Obj) : a.grownBy (b.alloc o) row :=
  ⟨h.os, h.tape, h.output, Nat.le_trans h.size (by simp), fun i hi hne => (Below.heap_alloc b o i (Nat.lt_of_lt_of_le hi h.size)).trans (h.block i hi hne)⟩
theorem grown_set {a b : World} {g : Nat} (h : a.grownBy b (some g)) (j : Nat) (u : Value) : a.grownBy (b.setCell ⟨g, j, none⟩ u).drew (some g) :=
  ⟨h.os, h.tape, h.output, by simpa [World.setCell] using h.size, fun i hi hne => (Below.heap_setCell b _ u i (fun e => hne (by rw [e]))).trans (h.block i hi hne)⟩
theorem Tab.own {w : World} {base g : Nat} {xs : List Int} (h : Tab w g xs) (hb : base ≤ g) (hl : xs.length = 4) : w.ownsRow base 65 1 (.slice (some ⟨g, 0, none⟩) 4 4) 4 (xs.flatMap ci) := by
  refine ⟨by rw [flat_ci, List.length_map, hl], .inr ⟨g, 4, _, rfl, hb, h, Nat.le_refl _, by unfold maxLen; omega, by simp [hl], ?_⟩⟩
  rw [flat_ci]
  simp only [Nat.mul_one]
  exact List.take_of_length_le (by rw [List.length_map, hl]; exact Nat.le_refl _)

set_option maxRecDepth 100000 in
set_option maxHeartbeats 800000 in
theorem set_any (g : Nat) (A : Option Addr) (n c : Nat) (us : List Upd) (xs : List Int) (w : World) (lo hi : Nat) (hg : hi ≤ g) (hn : n ≤ 9223372036854775807) (hl : xs.length = 4) (hr : ∀ u ∈ us, 0 ≤ u.ref ∧ u.ref ≤ 3) (ht : Tab w g xs) (h : Fl cu w lo hi A n us) :
    Calls Try.prog 60 #[.pointer (some ⟨g, 0, none⟩), .slice A n c] w fun e w' => e = .returned (.tuple #[]) ∧ Tab w' g (setR xs us) ∧ w.grownBy w' (some g) := by
  have HI := Lib.hid h
  have HR := Lib.hid hr
  have hgl := ht.lt
  have HT0 := Lib.hid ht
  clear h hr ht
  go_enter Try.func60, Try.ntmps60
  go_wp2_with fail
  go_loopw [8] (fun i wr => ∃ k : Nat, k ≤ n ∧ i = .int .i64 k ∧ Tab wr g (setR xs (us.take k)) ∧ w.grownBy wr (some g)) (fun i _ => n - (intOf i).toNat)
  case atStart => exact ⟨0, Nat.zero_le _, rfl, HT0.out, World.grownBy.refl w _⟩
  case round =>
    obtain ⟨k, hk, rfl, ht, hb⟩ := hrel
    have HT := Lib.hid ht
    have HB := Lib.hid hb
    have hwsz := hb.size
    have hgr := ht.lt
    clear ht hb
    by_cases hlt : k < n
    · obtain ⟨b, o, hll, rfl, _, hbh, hc0, hc1, hc2⟩ := fl_upd (HI.out.grown HB.out (by omega) (fun q hq => by injection hq with hq; omega)) hlt
      have hru := HR.out us[k] (List.getElem_mem hll)
      have hr0 := hru.1
      have hr3 := hru.2
      clear hru
      have hlk : (setR xs (us.take k)).length = 4 := by rw [setR_len]; exact hl
      have hcell := fun ob : Obj => (HT.out.alloc ob).cell hlk hr0 hr3
      have hst := fun ob : Obj => (HT.out.alloc ob).drewN 1 |>.set us[k].ref us[k].new_
      rw [show (setR xs (us.take k)).set us[k].ref.toNat us[k].new_ = setR xs (us.take (k + 1)) from by rw [List.take_succ_eq_append_getElem hll]; unfold setR; rw [List.foldl_append]; rfl] at hst
      obtain ⟨q, hq⟩ := Int.eq_ofNat_of_zero_le hr0
      rw [hq] at hcell hst hc0 hr3
      have hq3 : q ≤ 3 := by omega
      have hq4 : (q : Int) < 4 := by omega
      clear hq hr3 hr0
      go_wp2_with fail
      have f0 := new_cell wr #[.int .i64 q, .int .i64 us[k].old, .int .i64 us[k].new_] 88 0
      have f2 := new_cell wr #[.int .i64 q, .int .i64 us[k].old, .int .i64 us[k].new_] 88 2
      have hc := hcell (.cells #[.int .i64 q, .int .i64 us[k].old, .int .i64 us[k].new_] 88)
      have hst2 := hst (.cells #[.int .i64 q, .int .i64 us[k].old, .int .i64 us[k].new_] 88)
      have hgw := grown_alloc' HB.out (.cells #[.int .i64 q, .int .i64 us[k].old, .int .i64 us[k].new_] 88)
      clear hcell hst
      generalize wr.alloc (.cells #[.int .i64 q, .int .i64 us[k].old, .int .i64 us[k].new_] 88) = W at *
      have f0' : W.cell? ⟨wr.heap.size, 0, none⟩ = some (.int .i64 q) := f0
      have f2' : W.cell? ⟨wr.heap.size, 2, none⟩ = some (.int .i64 us[k].new_) := f2
      have hcl : W.cell? ⟨g, q, none⟩ = some (.int .i64 (getR (setR xs (us.take k)) q)) := hc.1
      have hfz : W.frozen? ⟨g, q, none⟩ = false := hc.2
      have HST : Hid (Tab ((W.drewN 1).setCell ⟨g, q, none⟩ (.int .i64 us[k].new_)) g (setR xs (us.take (k + 1)))) := hst2
      have HGW := Lib.hid hgw
      clear f0 f2 hc hst2 hgw
      go_still_tail 7, (by kernel_rfl)
      change wpList _ _ _ _ _ W.drew
      go_wp2_with fail
      exact ⟨⟨k + 1, by omega, by go_num, HST.out, (grown_set HGW.out q _)⟩, by simp [intOf]; omega⟩
    · have hkn : k = n := by omega
      subst hkn
      go_wp2_with fail
      go_end0
      refine ⟨rfl, ?_, HB.out⟩
      have := HT.out
      rwa [List.take_of_length_le (by rw [HI.out.1]; exact Nat.le_refl _)] at this

/-- refs behind updates that were tried -/
def appR (xs : List Int) (us : List Upd) : List Int := if fitsR xs us = true then setR xs us else xs
theorem appR_yes {xs : List Int} {us : List Upd} (h : fitsR xs us = true) : appR xs us = setR xs us := by unfold appR; rw [if_pos h]
theorem appR_no {xs : List Int} {us : List Upd} (h : fitsR xs us = false) : appR xs us = xs := by unfold appR; rw [h]; rfl
theorem fits_take_succ {xs : List Int} {us : List Upd} {k : Nat} (hk : k < us.length) (h : fitsR xs (us.take k) = true) (hu : getR xs us[k].ref = us[k].old) : fitsR xs (us.take (k + 1)) = true := by
  unfold fitsR at h ⊢
  rw [List.take_succ_eq_append_getElem hk, List.all_append, h]
  simp [hu]
theorem fits_at {xs : List Int} {us : List Upd} {k : Nat} (hk : k < us.length) (hu : ¬ getR xs us[k].ref = us[k].old) : fitsR xs us = false := by
  rw [← Bool.not_eq_true]
  intro h
  exact hu ((fitsR_iff xs us).1 h _ (List.getElem_mem hk))

end Go.Proofs.Ytgbkjfhmbchiiaa

namespace Go.Proofs.Ytgbkjfhmbchiiaa
set_option linter.unusedVariables false
set_option linter.unusedSimpArgs false
open Go.RowKit

/-- what RefsApply leaves: new memory, and the answer -/
def ApplyR (xs : List Int) (us : List Upd) (w : World) (e : Ending) (w' : World) : Prop :=
  ∃ (t : TypeId) (v : Value), w'.ownsRow w.heap.size t 1 v (applyL xs us).length ((applyL xs us).flatMap ci) ∧ Below w.heap.size w w' ∧ e = .returned (.tuple #[v, .bool (applyB xs us)])
theorem applyL_bad {xs : List Int} {us : List Upd} (h : refsB xs = false ∨ updsB us = false) : applyL xs us = [] ∧ applyB xs us = false := by
  unfold applyL applyB
  rcases h with h | h <;> rw [h] <;> simp
theorem applyL_ok {xs : List Int} {us : List Upd} (h1 : refsB xs = true) (h2 : updsB us = true) : applyL xs us = appR xs us ∧ applyB xs us = fitsR xs us := by
  unfold applyL applyB appR
  rw [if_pos ⟨h1, h2⟩, h1, h2]; exact ⟨rfl, by simp⟩
theorem appR_len (xs : List Int) (us : List Upd) : (appR xs us).length = xs.length := by
  unfold appR; split
  · exact setR_len us xs
  · rfl
theorem ret_tup2 {v : Value} {b b' : Bool} (h : b = b') : Ending.returned (.tuple #[v, .bool b]) = .returned (.tuple #[v, .bool b']) := by rw [h]

theorem arrayAt4 (A : Option Addr) (c : Nat) (w : World) : (Instr.arrayAt 65 (.slice A 4 c)).run Try.prog w = .ok (.pointer A) w := by
  simp [Instr.arrayAt, run_underlying Try.underlying65]

theorem int_lit {w : World} {lo hi n : Nat} {A : Option Addr} {xs : List Int} (h : Ints w lo hi A n xs) {r : Int} (hl : n = 4) (h0 : 0 ≤ r) (h3 : r ≤ 3) :
    ∃ b o, A = some ⟨b, o, none⟩ ∧ lo ≤ b ∧ b < hi ∧ w.cell? ⟨b, o + r.toNat, none⟩ = some (.int .i64 (getR xs r)) := by
  obtain ⟨b, o, hk, rfl, g1, g2, hc⟩ := h.int (k := r.toNat) (by omega)
  refine ⟨b, o, rfl, g1, g2, ?_⟩
  rw [hc]
  unfold getR
  rw [List.getD_eq_getElem?_getD, List.getElem?_eq_getElem hk]; rfl

theorem Try.elInt : ElemT Try.prog 24 3 (.int .i64 0) 1 8 := ⟨Try.underlying24, by kernel_rfl, rfl, by decide⟩
theorem ci_set (vs : List Int) (j : Nat) (x : Int) : (vs.flatMap ci).set j (.int .i64 x) = (vs.set j x).flatMap ci := by
  rw [flat_ci, flat_ci, List.map_set]
theorem own_base {w : World} {base base' size n : Nat} {e : TypeId} {v : Value} {cs : List Value} (h : w.ownsRow base e size v n cs) (hb : base' ≤ base) : w.ownsRow base' e size v n cs := by
  obtain ⟨h1, h⟩ := h
  rcases h with h | ⟨g, cap, cur, a, b, r⟩
  · exact ⟨h1, .inl h⟩
  · exact ⟨h1, .inr ⟨g, cap, cur, a, Nat.le_trans hb b, r⟩⟩
theorem own_lit_from {w : World} {base size : Nat} {e : TypeId} (hb : base ≤ w.heap.size) : (w.alloc (.cells #[] e)).ownsRow base e size (.slice (some ⟨w.heap.size, 0, none⟩) 0 0) 0 [] := own_base (own_nil_lit w e size) hb
theorem own_slice {w : World} {base size n : Nat} {e : TypeId} {v : Value} {cs : List Value} (h : w.ownsRow base e size v n cs) (hn : 0 < n) : ∃ g c, v = .slice (some ⟨g, 0, none⟩) n c ∧ base ≤ g ∧ g < w.heap.size ∧ n ≤ c := by
  have h0 := h
  obtain ⟨_, h⟩ := h
  rcases h with ⟨_, rfl⟩ | ⟨g, cap, cur, rfl, hb, _, hnc, _⟩
  · omega
  · exact ⟨g, cap, rfl, hb, (h0.lt g rfl).2, hnc⟩

set_option maxRecDepth 100000 in
set_option maxHeartbeats 1600000 in
theorem specSet_any (A1 A2 : Option Addr) (c1 n2 c2 : Nat) (xs : List Int) (us : List Upd) (w : World) (lo hi lo' hi' : Nat) (hh : hi ≤ w.heap.size) (hh' : hi' ≤ w.heap.size) (hn2 : n2 ≤ 9223372036854775807) (hr : ∀ u ∈ us, 0 ≤ u.ref ∧ u.ref ≤ 3)
    (hx : Ints w lo hi A1 4 xs) (hu : Fl cu w lo' hi' A2 n2 us) :
    Calls Try.prog 64 #[.slice A1 4 c1, .slice A2 n2 c2] w fun e w' => ∃ v, w'.ownsRow w.heap.size 3 1 v 4 ((setR xs us).flatMap ci) ∧ Below w.heap.size w w' ∧ e = .returned v := by
  have HX := Lib.hid hx
  have HU := Lib.hid hu
  have HR := Lib.hid hr
  have hxl := Lib.hid hx.1
  clear hx hu hr
  have hown0 := Lib.hid (own_nil_lit w 3 1)
  go_enter Try.func64, Try.ntmps64
  go_wp2_with (at_builtin; go_must (refine wpList_app Try.elInt hown0.out (HX.out.2.alloc hh _) (by rw [flat_len ci 1 ci_len, hxl.out]) (by rw [flat_ci]; simp [Value.oneCell']) (by unfold maxLen; omega) (by omega) (by simp) rfl rfl rfl rfl ?_); intro v2 w2 hown2 hg2)
  rw [Nat.zero_add, List.nil_append] at hown2
  have HB2 := Lib.hid (below_app ((Below.refl w.heap.size w).alloc (Nat.le_refl _) (.cells #[] 3)) (Nat.le_refl _) (by simp) hown0.out hg2)
  obtain ⟨g, cg, rfl, hgb, -, hgc⟩ := own_slice hown2 (by omega)
  have HO2 := Lib.hid hown2
  clear hown2 hg2
  go_loopw [6] (fun i wr => ∃ k : Nat, k ≤ n2 ∧ i = .int .i64 k ∧ wr.ownsRow w.heap.size 3 1 (.slice (some ⟨g, 0, none⟩) 4 cg) 4 ((setR xs (us.take k)).flatMap ci) ∧ Below w.heap.size w wr) (fun i _ => n2 - (intOf i).toNat)
  case atStart => exact ⟨0, Nat.zero_le _, rfl, HO2.out, HB2.out⟩
  case round =>
    obtain ⟨k, hk, rfl, hown, hb⟩ := hrel
    have HO := Lib.hid hown
    have HB := Lib.hid hb
    have hwsz := hb.size
    clear hown hb
    by_cases hlt : k < n2
    · obtain ⟨b, o, hll, rfl, _, hbh, hc0, hc1, hc2⟩ := fl_upd (HU.out.below HB.out hh') hlt
      have hru := HR.out us[k] (List.getElem_mem hll)
      have hr0 := hru.1
      have hr3 := hru.2
      clear hru hc1
      have hst := (HO.out.stored us[k].ref.toNat (.int .i64 us[k].new_)).1
      rw [ci_set, show (setR xs (us.take k)).set us[k].ref.toNat us[k].new_ = setR xs (us.take (k + 1)) from by rw [List.take_succ_eq_append_getElem hll]; unfold setR; rw [List.foldl_append]; rfl] at hst
      obtain ⟨q, hq⟩ := Int.eq_ofNat_of_zero_le hr0
      rw [hq] at hst hc0 hr3
      have hq3 : q ≤ 3 := by omega
      have hq4 : (q : Int) < 4 := by omega
      obtain ⟨u0, hg0, hf0⟩ := own_cells HO.out (k := q) (by omega) 0 (by omega)
      rw [Nat.mul_one, Nat.add_zero] at hg0 hf0
      have HST : Hid ((wr.setCell ⟨g, q, none⟩ (.int .i64 us[k].new_)).ownsRow w.heap.size 3 1 (.slice (some ⟨g, 0, none⟩) 4 cg) 4 ((setR xs (us.take (k + 1))).flatMap ci)) := hst
      clear hq hr3 hr0 hst
      go_wp2_with fail
      go_still_tail 12, (by kernel_rfl)
      change wpList _ _ _ _ _ wr.drew
      go_wp2_with fail
      exact ⟨⟨k + 1, by omega, by go_num, HST.out, (HB.out.setCell hgb _).drew⟩, by simp [intOf]; omega⟩
    · have hkn : k = n2 := by omega
      subst hkn
      have hfa := HO.out
      rw [List.take_of_length_le (by rw [HU.out.1]; exact Nat.le_refl _)] at hfa
      have HFA := Lib.hid hfa
      clear hfa
      go_wp2_with fail
      go_ret
      exact ⟨_, HFA.out, HB.out, rfl⟩

end Go.Proofs.Ytgbkjfhmbchiiaa

namespace Go.Proofs.Ytgbkjfhmbchiiaa
set_option linter.unusedVariables false
set_option linter.unusedSimpArgs false
open Go.RowKit

set_option maxHeartbeats 800000 in
theorem l92Value_any (g K : Nat) (w : World) (hK : K ≤ 1000000000 - 10) (h : Rdr w g K) :
    Calls Try.prog 96 #[.pointer (some ⟨g, 0, none⟩)] w fun e w' => ∃ x : Int, DrawT w w' g (K + 3) ∧ e = .returned (.int .i64 x) := by
  have HR := Lib.hid (DrawT.refl h)
  clear h
  go_enter Try.func96, Try.ntmps96
  go_wp2_with fail
  refine (pick_any g K 30 _ (by omega) HR.out.2).mono ?_
  rintro e w1 ⟨r1, hr1, hR1, hg1, -, rfl⟩
  have HS1 := Lib.hid (HR.out.step hg1 hR1)
  clear hR1 hg1 hr1 HR
  by_cases h0 : r1 = 0
  · have hd : (r1 == 0) = true := by simp [h0]
    clear h0
    have HA := Lib.hid (HS1.out.alloc (.cells #[.int .i64 (-2), .int .i64 990, .int .i64 991] 3))
    have hn := new_cell w1 #[.int .i64 (-2), .int .i64 990, .int .i64 991] 3
    have hbl : w1.heap.size < (w1.alloc (.cells #[.int .i64 (-2), .int .i64 990, .int .i64 991] 3)).heap.size := by simp
    go_wp2_with fail
    refine (pick_any g (K + 1) 3 _ (by omega) HA.out.2).mono ?_
    rintro e w2 ⟨r2, hr2, hR2, hg2, -, rfl⟩
    have HS2 := Lib.hid (HA.out.step hg2 hR2)
    obtain ⟨q, rfl⟩ := Int.eq_ofNat_of_zero_le hr2.1
    have hq := hr2.2 (by omega)
    have hc : w2.cell? ⟨w1.heap.size, q, none⟩ = (#[.int .i64 (-2), .int .i64 990, .int .i64 991] : Array Value)[q]? := by
      rw [← hn q]
      exact World.cell?_of_block (hg2.block _ hbl (fun e => by injection e with e; have e' : w1.heap.size = g := e; have := HS1.out.2.lt; omega))
    clear hR2 hg2 hr2 HA hn
    have hq3 : q = 0 ∨ q = 1 ∨ q = 2 := by omega
    rcases hq3 with rfl | rfl | rfl
    · have hc' : w2.cell? ⟨w1.heap.size, 0, none⟩ = some (.int .i64 (-2)) := hc
      clear hc
      go_wp2_with fail
      go_ret
      exact ⟨_, HS2.out.more (by omega), rfl⟩
    · have hc' : w2.cell? ⟨w1.heap.size, 1, none⟩ = some (.int .i64 990) := hc
      clear hc
      go_wp2_with fail
      go_ret
      exact ⟨_, HS2.out.more (by omega), rfl⟩
    · have hc' : w2.cell? ⟨w1.heap.size, 2, none⟩ = some (.int .i64 991) := hc
      clear hc
      go_wp2_with fail
      go_ret
      exact ⟨_, HS2.out.more (by omega), rfl⟩
  · have hd : (r1 == 0) = false := by simp [h0]
    clear h0
    go_wp2_with fail
    refine (pick_any g (K + 1) 6 _ (by omega) HS1.out.2).mono ?_
    rintro e w2 ⟨r2, hr2, hR2, hg2, -, rfl⟩
    have HS2 := Lib.hid (HS1.out.step hg2 hR2)
    have hr21 := hr2.1
    have hr22 := hr2.2 (by omega)
    clear hR2 hg2 hr2 HS1
    go_wp2_with fail
    go_ret
    exact ⟨_, HS2.out.more (by omega), rfl⟩

abbrev IntS (w wr : World) (g k K : Nat) (v : Value) : Prop := RowS ci 3 1 w wr g k K v

end Go.Proofs.Ytgbkjfhmbchiiaa
