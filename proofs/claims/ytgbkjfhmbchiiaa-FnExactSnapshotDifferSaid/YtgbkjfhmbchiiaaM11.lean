/-
  Plain words for draws: what a draw leaves, and how it is handed on. No condition.
  The walks of noRefs, isTxn, release, lock (on free refs) of the program. Condition: four refs.
  The walks of the reference's l22Parts: whether parts are valid. Condition: lengths fit an int64.
  The walks of the reference's l1Has, l22Txn and CoordinatorValid: whether a number is in a row, whether transactions and coordinators are valid. Condition: lengths fit an int64.
-/
import Derived.Test.YtgbkjfhmbchiiaaPick
import Derived.Test.YtgbkjfhmbchiiaaM3
import Derived.Test.YtgbkjfhmbchiiaaM2
import Derived.Deep.DeepCutAuto
import Derived.Test.YtgbkjfhmbchiiaaM10
import Derived.Test.YtgbkjfhmbchiiaaM7
import Derived.Test.YtgbkjfhmbchiiaaRefsV
import Derived.Deep.CutBlock
import Derived.Test.YtgbkjfhmbchiiaaM5
import Derived.Test.YtgbkjfhmbchiiaaM8
namespace Go.Proofs.Ytgbkjfhmbchiiaa
set_option linter.unusedVariables false
set_option linter.unusedSimpArgs false
open Go.RowKit

theorem grown_tr {a b c : World} {row : Option Nat} (h : a.grownBy b row) (k : b.grownBy c row) : a.grownBy c row :=
  ⟨k.os.trans h.os, k.tape.trans h.tape, k.output.trans h.output, Nat.le_trans h.size k.size, fun i hi hne => (k.block i (Nat.lt_of_lt_of_le hi h.size) hne).trans (h.block i hi hne)⟩
theorem grown_alloc {a b : World} {row : Option Nat} (h : a.grownBy b row) (o : Obj) : a.grownBy (b.alloc o) row := grown_tr h (World.grownBy_alloc b o row)
/-- what a draw leaves: nothing but the reader g has turned below, and the reader's place is at most K -/
def DrawT (w wr : World) (g K : Nat) : Prop := w.grownBy wr (some g) ∧ Rdr wr g K
theorem DrawT.refl {w : World} {g K : Nat} (h : Rdr w g K) : DrawT w w g K := ⟨World.grownBy.refl w _, h⟩
theorem DrawT.step {w wr w' : World} {g K K' : Nat} (h : DrawT w wr g K) (hg : wr.grownBy w' (some g)) (hR : Rdr w' g K') : DrawT w w' g K' := ⟨grown_tr h.1 hg, hR⟩
theorem DrawT.alloc {w wr : World} {g K : Nat} (h : DrawT w wr g K) (o : Obj) : DrawT w (wr.alloc o) g K := ⟨grown_alloc h.1 o, h.2.alloc o⟩
theorem DrawT.more {w wr : World} {g K K' : Nat} (h : DrawT w wr g K) (hK : K ≤ K') : DrawT w wr g K' := ⟨h.1, h.2.more hK⟩
theorem DrawT.tr {w wr w' : World} {g K K' : Nat} (h : DrawT w wr g K) (h' : DrawT wr w' g K') : DrawT w w' g K' := ⟨grown_tr h.1 h'.1, h'.2⟩
theorem DrawT.setCell {w wr : World} {g K : Nat} (h : DrawT w wr g K) {p : Addr} (hp : w.heap.size ≤ p.block) (hg : g < w.heap.size) (u : Value) : DrawT w (wr.setCell p u) g K := by
  refine ⟨⟨h.1.os, h.1.tape, h.1.output, by simpa [World.setCell] using h.1.size, fun i hi hne => (Below.heap_setCell wr p u i (by omega)).trans (h.1.block i hi hne)⟩, ?_⟩
  obtain ⟨A, n, c, q, bs, h1, h2, h3, h4, h5⟩ := h.2
  exact ⟨A, n, c, q, bs, h1, h2, (Below.heap_setCell wr p u g (by omega)).trans h3, h4.setCell (.inr (by omega)) u, h5⟩
theorem DrawT.drewN {w wr : World} {g K : Nat} (h : DrawT w wr g K) (n : Nat) : DrawT w (wr.drewN n) g K := ⟨⟨h.1.os, h.1.tape, h.1.output, h.1.size, h.1.block⟩, h.2⟩

theorem DrawT.own {w wr w' : World} {g K n size : Nat} {e : TypeId} {v : Value} {cs : List Value} (hg0 : g < w.heap.size) (h : DrawT w wr g K) (hown : wr.ownsRow w.heap.size e size v n cs) (hg : wr.grownBy w' v.ownBlock) : DrawT w w' g K := by
  refine ⟨⟨hg.os.trans h.1.os, hg.tape.trans h.1.tape, hg.output.trans h.1.output, Nat.le_trans h.1.size hg.size, fun i hi hne => ?_⟩, h.2.grown hg (fun q hq => by have := (hown.lt q hq).1; omega)⟩
  refine (hg.block i (Nat.lt_of_lt_of_le hi h.1.size) (fun e => ?_)).trans (h.1.block i hi hne)
  have := (hown.lt i e.symm).1; omega
/-- a row of k flat elements of the call's own, behind a reader in block g -/
def RowS {α : Type} (f : α → List Value) (t : TypeId) (size : Nat) (w wr : World) (g k K : Nat) (v : Value) : Prop :=
  ∃ vs : List α, vs.length = k ∧ wr.ownsRow w.heap.size t size v k (vs.flatMap f) ∧ DrawT w wr g K
section
variable {α : Type} {f : α → List Value} {t : TypeId} {size : Nat} {w wr w' : World} {g k K K' : Nat} {v v' : Value}
theorem RowS.row (hg0 : g < w.heap.size) (h : RowS f t size w wr g k K v) (h' : DrawT wr w' g K') : RowS f t size w w' g k K' v := by
  obtain ⟨vs, h1, h3, h4⟩ := h
  exact ⟨vs, h1, own_kept_row h3 h'.1 hg0, h4.tr h'⟩
theorem RowS.more (h : RowS f t size w wr g k K v) (hK : K ≤ K') : RowS f t size w wr g k K' v := by
  obtain ⟨vs, h1, h3, h4⟩ := h
  exact ⟨vs, h1, h3, h4.more hK⟩
theorem RowS.drw (h : RowS f t size w wr g k K v) : DrawT w wr g K := h.choose_spec.2.2
theorem RowS.rdr (h : RowS f t size w wr g k K v) : Rdr wr g K := h.drw.2
theorem RowS.alloc (h : RowS f t size w wr g k K v) (o : Obj) : RowS f t size w (wr.alloc o) g k K v := by
  obtain ⟨vs, h1, h3, h4⟩ := h
  exact ⟨vs, h1, h3.alloc o, h4.alloc o⟩
theorem RowS.app {vs xs : List α} {m : Nat} {ob : Obj} (hg0 : g < w.heap.size) (h1 : vs.length = k) (h3 : wr.ownsRow w.heap.size t size v k (vs.flatMap f)) (h4 : DrawT w wr g K) (hx : xs.length = m)
    (hown : w'.ownsRow w.heap.size t size v' (k + m) (vs.flatMap f ++ xs.flatMap f)) (hg : (wr.alloc ob).grownBy w' v.ownBlock) : RowS f t size w w' g (k + m) K v' := by
  rw [← List.flatMap_append] at hown
  exact ⟨vs ++ xs, by simp [h1, hx], hown, (h4.alloc ob).own hg0 (h3.alloc ob) hg⟩
/-- a cut of a row, from its head on -/
theorem own_cut {base n c j : Nat} {e : TypeId} {A : Option Addr} {cs : List Value} (h : w.ownsRow base e size (.slice A n c) n cs) (hj : j ≤ n) : w.ownsRow base e size (.slice A j c) j (cs.take (j * size)) := by
  obtain ⟨h1, h⟩ := h
  have hle : j * size ≤ n * size := Nat.mul_le_mul_right _ hj
  refine ⟨by rw [List.length_take, h1]; omega, ?_⟩
  rcases h with ⟨h, rfl⟩ | ⟨q, cap, cur, hv, hb, hh, hn, hm, hs, ht⟩
  · left
    injection h with hA _ hc
    subst hA hc
    have : j = 0 := by omega
    subst this; simp
  · right
    injection hv with hA _ hc
    subst hA hc
    exact ⟨q, _, cur, rfl, hb, hh, by omega, hm, hs, by rw [← ht, List.take_take]; congr 1; omega⟩
theorem flat_take (hf : ∀ x, (f x).length = size) (vs : List α) (j : Nat) : (vs.flatMap f).take (j * size) = (vs.take j).flatMap f := by
  induction vs generalizing j with
  | nil => simp
  | cons x vs ih =>
    rcases j with _ | j
    · simp
    · rw [List.flatMap_cons, List.take_succ_cons, List.flatMap_cons, Nat.add_mul, Nat.one_mul, Nat.add_comm, List.take_append, hf, List.take_of_length_le (by rw [hf]; omega), Nat.add_sub_cancel_left, ih]
theorem RowS.cut {A : Option Addr} {c j : Nat} (hf : ∀ x, (f x).length = size) (h : RowS f t size w wr g k K (.slice A k c)) (hj : j ≤ k) : RowS f t size w wr g j K (.slice A j c) := by
  obtain ⟨vs, h1, h3, h4⟩ := h
  have := own_cut h3 hj
  rw [flat_take hf] at this
  exact ⟨vs.take j, by rw [List.length_take]; omega, this, h4⟩

/-- the same, with the box p of an element that is being drawn -/
def BoxS (f : α → List Value) (t : TypeId) (size : Nat) (w wr : World) (g k K p : Nat) (v : Value) (x : α) : Prop :=
  wr.heap[p]? = some (.cells (f x).toArray t (0, 0)) ∧ RowS f t size w wr g k K v ∧ (∀ q, v.ownBlock = some q → q < p) ∧ w.heap.size ≤ p
theorem BoxS.mk_ (h : RowS f t size w wr g k K v) (x : α) : BoxS f t size w (wr.alloc (.cells (f x).toArray t)) g k K wr.heap.size v x := by
  refine ⟨heap_alloc_new wr _, h.alloc _, fun q hq => ?_, h.drw.1.size⟩
  obtain ⟨vs, h1, h3, h4⟩ := h
  exact (h3.lt q hq).2
theorem BoxS.lt {p : Nat} {x : α} (h : BoxS f t size w wr g k K p v x) : p < wr.heap.size := by
  obtain ⟨h, _⟩ := h
  rcases Nat.lt_or_ge p wr.heap.size with hlt | hge
  · exact hlt
  · rw [Array.getElem?_eq_none hge] at h; cases h
theorem BoxS.draw {p : Nat} {x : α} (hg0 : g < w.heap.size) (h : BoxS f t size w wr g k K p v x) (h' : DrawT wr w' g K') : BoxS f t size w w' g k K' p v x := by
  have hl := h.lt
  obtain ⟨h2, h3, h4, h5⟩ := h
  exact ⟨(h'.1.block p hl (fun e => by injection e with e; omega)).trans h2, h3.row hg0 h', h4, h5⟩
theorem BoxS.more {p : Nat} {x : α} (h : BoxS f t size w wr g k K p v x) (hK : K ≤ K') : BoxS f t size w wr g k K' p v x := ⟨h.1, h.2.1.more hK, h.2.2⟩
theorem BoxS.cell {p j : Nat} {x : α} {u : Value} (h : BoxS f t size w wr g k K p v x) (hj : (f x)[j]? = some u) : wr.cell? ⟨p, j, none⟩ = some u ∧ wr.frozen? ⟨p, j, none⟩ = false := by
  refine ⟨?_, frozen_of_row wr p _ _ _ h.1⟩
  rw [cell_of_row wr p j _ _ _ h.1]; simpa using hj
theorem BoxS.set {p j : Nat} {x y : α} {u : Value} (hg0 : g < w.heap.size) (h : BoxS f t size w wr g k K p v x) (hy : (f x).set j u = f y) : BoxS f t size w (wr.setCell ⟨p, j, none⟩ u) g k K p v y := by
  obtain ⟨h2, ⟨vs, a1, a3, a4⟩, h4, h5⟩ := h
  refine ⟨?_, ⟨vs, a1, a3.kept (row := some p) ⟨rfl, rfl, rfl, by simp [World.setCell], fun i hi hne => Below.heap_setCell _ _ _ _ (fun e => hne (by rw [e]))⟩ ?_, a4.setCell h5 hg0 u⟩, h4, h5⟩
  · rw [heap_setCell_same wr p j _ _ _ h2]
    simp [hy]
  · rcases hv : v.ownBlock with _ | q
    · exact .inl rfl
    · refine .inr (fun e => ?_)
      injection e with e
      have := h4 q hv; omega
end
theorem Fl.draw {α : Type} {f : α → List Value} {w w' : World} {lo hi n g K : Nat} {A : Option Addr} {xs : List α} (h : Fl f w lo hi A n xs) (hd : DrawT w w' g K) (hh : hi ≤ w.heap.size) (hg : g < lo) : Fl f w' lo hi A n xs :=
  h.grown hd.1 hh (fun q hq => by injection hq with hq; omega)

end Go.Proofs.Ytgbkjfhmbchiiaa

namespace Go.Proofs.Ytgbkjfhmbchiiaa
set_option linter.unusedVariables false
set_option linter.unusedSimpArgs false
open Go.RowKit

/-- block g begins with the ints xs; the cells 'rest' stand behind them -/
def TabX (w : World) (g : Nat) (t : TypeId) (xs : List Int) (rest : List Value) : Prop := w.heap[g]? = some (.cells (xs.map (Value.int .i64) ++ rest).toArray t (0, 0))
theorem TabX.lt {w : World} {g : Nat} {t : TypeId} {xs : List Int} {rest : List Value} (h : TabX w g t xs rest) : g < w.heap.size := heap_lt h
theorem TabX.grown {w w' : World} {g : Nat} {t : TypeId} {xs : List Int} {rest : List Value} {row : Option Nat} (h : TabX w g t xs rest) (hg : w.grownBy w' row) (hr : row ≠ some g) : TabX w' g t xs rest :=
  (hg.block g h.lt (fun e => hr e.symm)).trans h
theorem TabX.alloc {w : World} {g : Nat} {t : TypeId} {xs : List Int} {rest : List Value} (h : TabX w g t xs rest) (o : Obj) : TabX (w.alloc o) g t xs rest := h.grown (World.grownBy_alloc w o none) (by simp)
theorem TabX.cell {w : World} {g : Nat} {t : TypeId} {xs : List Int} {rest : List Value} (h : TabX w g t xs rest) {r : Int} (hl : xs.length = 4) (h0 : 0 ≤ r) (h3 : r ≤ 3) :
    w.cell? ⟨g, r.toNat, none⟩ = some (.int .i64 (getR xs r)) ∧ w.frozen? ⟨g, r.toNat, none⟩ = false := by
  refine ⟨?_, frozen_of_row w g _ _ _ h⟩
  rw [cell_of_row w g r.toNat _ _ _ h]
  unfold getR
  have : r.toNat < xs.length := by omega
  rw [List.getElem?_toArray, List.getElem?_append_left (by rw [List.length_map]; exact this)]
  simp [this]
theorem TabX.set {w : World} {g : Nat} {t : TypeId} {xs : List Int} {rest : List Value} (h : TabX w g t xs rest) (r : Nat) (hr : r < xs.length) (x : Int) : TabX (w.setCell ⟨g, r, none⟩ (.int .i64 x)) g t (xs.set r x) rest := by
  unfold TabX
  rw [heap_setCell_same w g r _ _ _ h]
  simp [List.map_set, List.set_append_left, hr]

set_option maxRecDepth 100000 in
set_option maxHeartbeats 800000 in
theorem noRefs_any (w : World) : Calls Try.prog 58 #[] w fun e w' => e = .returned (.agg #[.int .i64 (-1), .int .i64 (-1), .int .i64 (-1), .int .i64 (-1)]) ∧ Below w.heap.size w w' := by
  go_enter Try.func58, Try.ntmps58
  go_wp2_with fail
  refine wp_loop_rounds 5 ?_
  rw [rounds_succ]
  go_wp2_with fail
  rw [rounds_succ]
  go_wp2_with fail
  rw [rounds_succ]
  go_wp2_with fail
  rw [rounds_succ]
  go_wp2_with fail
  rw [rounds_succ]
  go_wp2_with fail
  exact bodyPost_ret (v := .agg #[.int .i64 (-1), .int .i64 (-1), .int .i64 (-1), .int .i64 (-1)]) (by simp [results, Try.results58, go_sem]) rfl ⟨rfl, ((Below.refl _ _).alloc (Nat.le_refl _) _).alloc (by simp) _⟩

/-- whether a transaction holds a lock -/
def anyL (xs : List Int) (t : Int) : Bool := xs.any fun n => decide (n = t)
theorem freeL_step {xs : List Int} {k : Nat} (hk : k < xs.length) (t : Int) :
    (freeL (xs.take k) t ++ xs.drop k).set k (if xs[k] = t then -1 else xs[k]) = freeL (xs.take (k + 1)) t ++ xs.drop (k + 1) := by
  have e1 : (freeL (xs.take k) t).length = k := by rw [freeL_len, List.length_take]; omega
  rw [List.take_succ_eq_append_getElem hk]
  have e2 : freeL (xs.take k ++ [xs[k]]) t = freeL (xs.take k) t ++ [if xs[k] = t then -1 else xs[k]] := by unfold freeL; rw [List.map_append]; rfl
  rw [e2, List.set_append_right _ _ (by omega), e1, Nat.sub_self, List.drop_eq_getElem_cons hk, List.set_cons_zero]
  simp
theorem freeL_same {xs : List Int} {k : Nat} (hk : k < xs.length) {t : Int} (h : ¬ xs[k] = t) : freeL (xs.take (k + 1)) t ++ xs.drop (k + 1) = freeL (xs.take k) t ++ xs.drop k := by
  rw [← freeL_step hk t, if_neg h, List.set_append_right _ _ (by rw [freeL_len, List.length_take]; omega), freeL_len, List.length_take, Nat.min_eq_left (by omega), Nat.sub_self, List.drop_eq_getElem_cons hk, List.set_cons_zero]

end Go.Proofs.Ytgbkjfhmbchiiaa

namespace Go.Proofs.Ytgbkjfhmbchiiaa
set_option linter.unusedVariables false
set_option linter.unusedSimpArgs false
open Go.RowKit

set_option maxHeartbeats 3200000 in
set_option maxRecDepth 100000 in
theorem l22Parts_any (ps : List PartD) (A : Option Addr) (n c : Nat) (w : World) (lo hi : Nat) (hh : hi ≤ w.heap.size) (h : D.rd w lo hi (dParts ps) (.slice A n c)) :
    Calls Try.prog 50 #[.slice A n c] w fun e w' => e = .returned (.bool (partsB ps)) ∧ Below w.heap.size w w' := by
  have HI := Lib.hid h
  have HN := Lib.hid h.len.1
  have hn63 : n ≤ 9223372036854775807 := by have := h.len; omega
  clear h
  go_enter Try.func50, Try.ntmps50
  go_wp2_with fail
  go_loopw [3] (fun i wr => ∃ k : Nat, k ≤ n ∧ i = .int .i64 k ∧ Hid (allTo (partAt ps) k = true) ∧ Below w.heap.size w wr) (fun i _ => n - (intOf i).toNat)
  case atStart => exact ⟨0, Nat.zero_le _, rfl, rfl, Below.refl _ _⟩
  case round =>
    obtain ⟨k, hk, rfl, HT, hb⟩ := hrel
    have HB := Lib.hid hb
    have hwsz := hb.size
    clear hb
    by_cases hlt : k < n
    · obtain ⟨b, o, hl, A1, n1, c1, rfl, _, hbh, hc0, hc1, ⟨hn1, hm1, hr1⟩⟩ := rd_Part (HI.out.below HB.out hh) hlt
      have hbw : b < wr.heap.size := by omega
      have hhr : hi ≤ wr.heap.size := by omega
      have HB2 := HB
      have HU := Lib.hid hr1.upds
      have HQ : Hid (∀ (v : Value) (q : Addr), wr.cell? q = some v → wr.cell? q = some v) := fun v q he => he
      have hq0 : ∀ p : BelBy wr, p.w.cell? ⟨b, o + k * 2, none⟩ = some (.int .i64 ps[k].shard) := fun p => p.cell hc0
      have hq1 : ∀ p : BelBy wr, p.w.cell? ⟨b, o + k * 2 + 1, none⟩ = some (.slice A1 n1 c1) := fun p => p.cell hc1
      have hh2 := hhr
      clear hr1
      rcases g1 : inR ps[k].shard 0 2 with _ | _
      · have hno := Lib.hid (part_no1 hl g1)
        go_wp2_with fail
        refine quiet_bel (by kernel_rfl) (by kernel_rfl) ?_
        repeat (go_big_quiet_step (first | (go_at_call 41; exact bel_same (l6In_any _ _ _ _)) | (go_at_call 69; exact bel_call (specUpds_any A1 n1 c1 ps[k].us _ lo hi (Nat.le_trans hh2 (BelBy.h _).size) (by omega) (Fl.below HU.out (BelBy.h _) hh2)))))
        refine wpQuiet_nil ?_
        intro _ hw'
        obtain ⟨⟨wz, hbz⟩, rfl⟩ := hw'
        have HBZ := Lib.hid (bel_tr HB2.out (Nat.le_refl _) hbz)
        clear hbz hq0 hq1
        go_wp2_with fail
        go_ret
        exact ⟨ret_bool hno.out.symm, HBZ.out⟩
      · rcases g2 : updsB ps[k].us with _ | _
        · have hno := Lib.hid (part_no2 hl g2)
          go_wp2_with fail
          refine quiet_bel (by kernel_rfl) (by kernel_rfl) ?_
          repeat (go_big_quiet_step (first | (go_at_call 41; exact bel_same (l6In_any _ _ _ _)) | (go_at_call 69; exact bel_call (specUpds_any A1 n1 c1 ps[k].us _ lo hi (Nat.le_trans hh2 (BelBy.h _).size) (by omega) (Fl.below HU.out (BelBy.h _) hh2)))))
          refine wpQuiet_nil ?_
          intro _ hw'
          obtain ⟨⟨wz, hbz⟩, rfl⟩ := hw'
          have HBZ := Lib.hid (bel_tr HB2.out (Nat.le_refl _) hbz)
          clear hbz hq0 hq1
          go_wp2_with fail
          go_ret
          exact ⟨ret_bool hno.out.symm, HBZ.out⟩
        · rcases k with _ | k
          · have hyes := Lib.hid (part_yes0 hl g1 g2)
            simp only [Nat.zero_mul, Nat.add_zero] at hc0 hc1 hq0 hq1
            go_wp2_with fail
            refine quiet_bel (by kernel_rfl) (by kernel_rfl) ?_
            repeat (go_big_quiet_step (first | (go_at_call 41; exact bel_same (l6In_any _ _ _ _)) | (go_at_call 69; exact bel_call (specUpds_any A1 n1 c1 ps[0].us _ lo hi (Nat.le_trans hh2 (BelBy.h _).size) (by omega) (Fl.below HU.out (BelBy.h _) hh2)))))
            refine wpQuiet_nil ?_
            intro _ hw'
            obtain ⟨⟨wz, hbz⟩, rfl⟩ := hw'
            have HBZ := Lib.hid (bel_tr HB2.out (Nat.le_refl _) hbz)
            clear hbz hq0 hq1
            go_wp2_with fail
            exact ⟨⟨1, by omega, by go_num, allTo_succ HT.out hyes.out, HBZ.out⟩, by simp [intOf]; omega⟩
          · obtain ⟨b1, o1, hl1, B1, m1, d1, he1, _, _, hv0, -, -⟩ := rd_Part (HI.out.below HB.out hh) (k := k) (by omega)
            injection he1 with he1
            injection he1 with ea eb ec
            subst ea eb
            have hwk : IntKind.i64.wrap (k : Int) = (k : Int) := IntWalk.i64_in _ (by omega)
            have hkn1 : (k : Int) < (n : Int) := by omega
            have hkn2 : k < n := by omega
            have hq2 : ∀ p : BelBy wr, p.w.cell? ⟨b, o + k * 2, none⟩ = some (.int .i64 ps[k].shard) := fun p => p.cell (HQ.out _ _ hv0)
            by_cases g6 : ps[k + 1].shard ≤ ps[k].shard
            · have hno := Lib.hid (part_no3 hl g6)
              go_wp2_with fail
              refine quiet_bel (by kernel_rfl) (by kernel_rfl) ?_
              repeat (go_big_quiet_step (first | (go_at_call 41; exact bel_same (l6In_any _ _ _ _)) | (go_at_call 69; exact bel_call (specUpds_any A1 n1 c1 ps[k + 1].us _ lo hi (Nat.le_trans hh2 (BelBy.h _).size) (by omega) (Fl.below HU.out (BelBy.h _) hh2)))))
              refine wpQuiet_nil ?_
              intro _ hw'
              obtain ⟨⟨wz, hbz⟩, rfl⟩ := hw'
              have HBZ := Lib.hid (bel_tr HB2.out (Nat.le_refl _) hbz)
              clear hbz hq0 hq1 hq2
              go_wp2_with fail
              go_ret
              exact ⟨ret_bool hno.out.symm, HBZ.out⟩
            · have hyes := Lib.hid (part_yes hl g1 g2 (by omega))
              have hd6 : decide (ps[k + 1].shard ≤ ps[k].shard) = false := decide_eq_false g6
              go_wp2_with fail
              refine quiet_bel (by kernel_rfl) (by kernel_rfl) ?_
              repeat (go_big_quiet_step (first | (go_at_call 41; exact bel_same (l6In_any _ _ _ _)) | (go_at_call 69; exact bel_call (specUpds_any A1 n1 c1 ps[k + 1].us _ lo hi (Nat.le_trans hh2 (BelBy.h _).size) (by omega) (Fl.below HU.out (BelBy.h _) hh2)))))
              refine wpQuiet_nil ?_
              intro _ hw'
              obtain ⟨⟨wz, hbz⟩, rfl⟩ := hw'
              have HBZ := Lib.hid (bel_tr HB2.out (Nat.le_refl _) hbz)
              clear hbz hq0 hq1 hq2
              go_wp2_with fail
              exact ⟨⟨k + 1 + 1, by omega, by go_num, allTo_succ HT.out hyes.out, HBZ.out⟩, by simp [intOf]; omega⟩
    · have hkn : k = n := by omega
      subst hkn
      have hres : Hid (partsB ps = decide (0 < k)) := by
        show _ = _
        unfold partsB
        rw [← HN.out, HT.out]; rfl
      go_wp2_with fail
      go_ret
      exact ⟨ret_bool (by first | (rw [hres.out]; done) | (rw [hres.out]; simp)), HB.out⟩

end Go.Proofs.Ytgbkjfhmbchiiaa

namespace Go.Proofs.Ytgbkjfhmbchiiaa
set_option linter.unusedVariables false
set_option linter.unusedSimpArgs false
open Go.RowKit

set_option maxHeartbeats 400000 in
theorem l1Has_any (A : Option Addr) (n c : Nat) (xs : List Int) (x : Int) (w : World) (lo hi : Nat) (hn : n ≤ 9223372036854775807) (h : Ints w lo hi A n xs) :
    Calls Try.prog 30 #[.slice A n c, .int .i64 x] w fun e w' => e = .returned (.bool (hasB x xs)) ∧ w = w' := by
  have HI := Lib.hid h
  clear h
  go_enter Try.func30, Try.ntmps30
  go_wp2_with fail
  go_loop [5] (fun i => ∃ k : Nat, k ≤ n ∧ i = .int .i64 k ∧ Hid (x ∉ xs.take k)) (fun i => n - (intOf i).toNat)
  case atStart => exact ⟨0, Nat.zero_le _, rfl, by show _ ∉ _; simp⟩
  case round =>
    obtain ⟨k, hk, rfl, HX⟩ := hrel
    by_cases hlt : k < n
    · obtain ⟨b, o, hl, rfl, _, _, hc⟩ := HI.out.int hlt
      by_cases he : xs[k] = x
      · have HY := Lib.hid (hasB_at hl he)
        rw [he] at hc
        clear he
        go_wp2_with fail
        go_ret
        exact ⟨ret_bool HY.out.symm, rfl⟩
      · have hd : (xs[k] == x) = false := by simpa using he
        have HY := Lib.hid (take_mem_succ hl HX.out he)
        clear he
        go_wp2_with fail
        go_round
        case rel => exact ⟨k + 1, by omega, by go_num, HY.out⟩
        case measure => simp [intOf]; omega
    · have hkn : k = n := by omega
      subst hkn
      have HY := Lib.hid (hasB_none HI.out.1 HX.out)
      go_wp2_with fail
      go_ret
      exact ⟨ret_bool HY.out.symm, rfl⟩

theorem cnt1_eq {votes : List Int} {k : Nat} (h : k < votes.length) {v : Int} (e : votes[k] = v) : cnt1 v (votes.take (k + 1)) = cnt1 v (votes.take k) + 1 := by rw [cnt1_snoc h, if_pos e.symm]
theorem cnt1_ne {votes : List Int} {k : Nat} (h : k < votes.length) {v : Int} (e : ¬ votes[k] = v) : cnt1 v (votes.take (k + 1)) = cnt1 v (votes.take k) := by rw [cnt1_snoc h, if_neg (fun x => e x.symm)]
theorem all_snoc {votes : List Int} {k : Nat} (h : k < votes.length) (ha : (votes.take k).all voteB = true) (hv : voteB votes[k] = true) : (votes.take (k + 1)).all voteB = true := by
  rw [List.take_succ_eq_append_getElem h, List.all_append, ha]; simp [hv]
theorem all_bad {votes : List Int} {k : Nat} (h : k < votes.length) (hv : voteB votes[k] = false) : votes.all voteB = false := by
  rw [← Bool.not_eq_true, List.all_eq_true]
  intro hh
  rw [hh _ (List.getElem_mem h)] at hv; cases hv
theorem txn_novote {parts : List PartD} {votes : List Int} {dec : Int} (h : votes.all voteB = false) : txnB ⟨parts, votes, dec⟩ = false := by
  unfold txnB; show (_ && votes.all voteB && _) = false; rw [h]; simp
theorem txn_nopart {parts : List PartD} {votes : List Int} {dec : Int} (h : partsB parts = false) : txnB ⟨parts, votes, dec⟩ = false := by unfold txnB; rw [h]; rfl
theorem txn_nolen {parts : List PartD} {votes : List Int} {dec : Int} (h : ¬ votes.length = parts.length) : txnB ⟨parts, votes, dec⟩ = false := by
  unfold txnB; show (_ && decide (votes.length = parts.length) && _ && _) = false; rw [decide_eq_false h]; simp
theorem txn_dec {parts : List PartD} {votes : List Int} {dec : Int} (h1 : partsB parts = true) (h2 : votes.length = parts.length) (h3 : votes.all voteB = true) : txnB ⟨parts, votes, dec⟩ = decB dec votes := by
  unfold txnB; show (partsB parts && decide (votes.length = parts.length) && votes.all voteB && decB dec votes) = _; rw [h1, decide_eq_true h2, h3]; simp

set_option maxHeartbeats 3200000 in
set_option maxRecDepth 100000 in
theorem l22Txn_any (parts : List PartD) (votes : List Int) (dec : Int) (A0 : Option Addr) (n0 c0 : Nat) (A1 : Option Addr) (n1 c1 : Nat) (w : World) (lo hi : Nat) (hh : hi ≤ w.heap.size) (hr0 : D.rd w lo hi (dParts parts) (.slice A0 n0 c0)) (hr1 : D.rd w lo hi (intsD votes) (.slice A1 n1 c1)) :
    Calls Try.prog 29 #[.agg #[.slice A0 n0 c0, .slice A1 n1 c1, .int .i64 dec]] w fun e w' => e = .returned (.bool (txnB ⟨parts, votes, dec⟩)) ∧ Below w.heap.size w w' := by
  have HB0 : Hid (Below w.heap.size w (w.alloc (.cells #[.slice A0 n0 c0, .slice A1 n1 c1, .int .i64 dec] 46))) := (Below.refl _ _).alloc (Nat.le_refl _) _
  have HX0 : Hid ((w.alloc (.cells #[.slice A0 n0 c0, .slice A1 n1 c1, .int .i64 dec] 46)).heap[w.heap.size]? = some (.cells #[.slice A0 n0 c0, .slice A1 n1 c1, .int .i64 dec] 46 (0, 0))) := Lib.hid (heap_alloc_new w _)
  have HP := Lib.hid (hr0.alloc hh (.cells #[.slice A0 n0 c0, .slice A1 n1 c1, .int .i64 dec] 46))
  have HV : Hid (Ints (w.alloc (.cells #[.slice A0 n0 c0, .slice A1 n1 c1, .int .i64 dec] 46)) lo hi A1 n1 votes) := hr1.ints.alloc hh _
  have HN0 := Lib.hid hr0.len.1
  have HN1 := Lib.hid hr1.len.1
  have hn63 : n1 ≤ 9223372036854775807 := by have := hr1.len; omega
  clear hr0 hr1
  go_enter Try.func29, Try.ntmps29
  go_wp2_with fail
  go_loop [3, 4, 5] (fun y q i => ∃ k a b : Nat, k ≤ n1 ∧ a ≤ k ∧ b ≤ k ∧ i = .int .i64 k ∧ y = .int .i64 a ∧ q = .int .i64 b ∧ Hid (a = cnt1 1 (votes.take k)) ∧ Hid (b = cnt1 (-1) (votes.take k)) ∧ Hid ((votes.take k).all voteB = true)) (fun _ _ i => n1 - (intOf i).toNat)
  case atStart => exact ⟨0, 0, 0, Nat.zero_le _, Nat.zero_le _, Nat.zero_le _, rfl, rfl, rfl, rfl, rfl, rfl⟩
  case round =>
    obtain ⟨k, a, b, hk, ha, hb, rfl, rfl, rfl, HA, HBB, HT⟩ := hrel
    by_cases hlt : k < n1
    · obtain ⟨bb, o, hl, rfl, _, _, hc⟩ := HV.out.int hlt
      rcases hv : voteB votes[k] with _ | _
      · have hno := Lib.hid (txn_novote (parts := parts) (dec := dec) (all_bad hl hv))
        have hv' : inR votes[k] (-1) 1 = false := hv
        clear hv
        go_wp2_with (go_at_call 41; refine (l6In_any _ _ _ _).mono ?_; rintro e w' ⟨rfl, rfl⟩)
        go_ret
        exact ⟨ret_bool hno.out.symm, HB0.out⟩
      · have HT2 := Lib.hid (all_snoc hl HT.out hv)
        have hv' : inR votes[k] (-1) 1 = true := hv
        clear hv
        have h3 := (inR_iff _ _ _).1 hv'
        by_cases e1 : votes[k] = 1
        · have HA2 := Lib.hid (cnt1_eq hl e1)
          have HB2 := Lib.hid (cnt1_ne hl (v := -1) (by rw [e1]; decide))
          rw [e1] at hc hv'
          clear h3 e1
          go_wp2_with (go_at_call 41; refine (l6In_any _ _ _ _).mono ?_; rintro e w' ⟨rfl, rfl⟩)
          go_round
          case rel => exact ⟨k + 1, a + 1, b, by omega, by omega, by omega, by go_num, by go_num, rfl, by show _ = _; rw [HA2.out, HA.out], by show _ = _; rw [HB2.out, HBB.out], HT2.out⟩
          case measure => simp [intOf]; omega
        · by_cases e2 : votes[k] = -1
          · have HA2 := Lib.hid (cnt1_ne hl e1)
            have HB2 := Lib.hid (cnt1_eq hl e2)
            rw [e2] at hc hv'
            clear h3 e1 e2
            go_wp2_with (go_at_call 41; refine (l6In_any _ _ _ _).mono ?_; rintro e w' ⟨rfl, rfl⟩)
            go_round
            case rel => exact ⟨k + 1, a, b + 1, by omega, by omega, by omega, by go_num, rfl, by go_num, by show _ = _; rw [HA2.out, HA.out], by show _ = _; rw [HB2.out, HBB.out], HT2.out⟩
            case measure => simp [intOf]; omega
          · have e3 : votes[k] = 0 := by omega
            have HA2 := Lib.hid (cnt1_ne hl e1)
            have HB2 := Lib.hid (cnt1_ne hl e2)
            rw [e3] at hc hv'
            clear h3 e1 e2 e3
            go_wp2_with (go_at_call 41; refine (l6In_any _ _ _ _).mono ?_; rintro e w' ⟨rfl, rfl⟩)
            go_round
            case rel => exact ⟨k + 1, a, b, by omega, by omega, by omega, by go_num, rfl, rfl, by show _ = _; rw [HA2.out, HA.out], by show _ = _; rw [HB2.out, HBB.out], HT2.out⟩
            case measure => simp [intOf]; omega
    · have hkn : k = n1 := by omega
      subst hkn
      have htk : votes.take k = votes := List.take_of_length_le (by have := HV.out.1; omega)
      rw [htk] at HA HBB HT
      clear htk
      rcases hp : partsB parts with _ | _
      · have hno := Lib.hid (txn_nopart (votes := votes) (dec := dec) hp)
        go_wp2_with fail
        refine (l22Parts_any parts A0 n0 c0 _ lo hi (by simp; omega) HP.out).mono ?_
        rintro e w1 ⟨rfl, hb1⟩
        have HB1 := Lib.hid (bel_tr HB0.out (Nat.le_refl _) hb1)
        clear hb1
        rw [hp]
        go_wp2_with fail
        go_ret
        exact ⟨ret_bool hno.out.symm, HB1.out⟩
      · go_wp2_with fail
        refine (l22Parts_any parts A0 n0 c0 _ lo hi (by simp; omega) HP.out).mono ?_
        rintro e w1 ⟨rfl, hb1⟩
        have HB1 := Lib.hid (bel_tr HB0.out (Nat.le_refl _) hb1)
        have HX1 := Lib.hid ((hb1.block _ (by simp)).trans HX0.out)
        have b0 := cell_of_row w1 w.heap.size 0 _ _ _ HX1.out
        have b1 := cell_of_row w1 w.heap.size 1 _ _ _ HX1.out
        have b2 := cell_of_row w1 w.heap.size 2 _ _ _ HX1.out
        clear hb1
        rw [hp]
        by_cases hl : k = n0
        · subst hl
          have HD := Lib.hid (txn_dec (dec := dec) hp (HN1.out.symm.trans HN0.out) HT.out)
          have HL := HV.out.1
          clear hp
          by_cases d0 : dec = 0
          · subst d0
            by_cases hb0 : b = 0
            · subst hb0
              go_wp2_with fail
              go_ret
              refine ⟨ret_bool ?_, HB1.out⟩
              rw [HD.out]; unfold decB
              rw [if_neg (by decide), if_neg (by decide), if_pos rfl, ← HA.out, ← HBB.out, HL]; simp
            · have q0 : (((b : Nat) : Int) == 0) = false := by simpa using hb0
              go_wp2_with fail
              go_ret
              refine ⟨ret_bool ?_, HB1.out⟩
              rw [HD.out]; unfold decB
              rw [if_neg (by decide), if_neg (by decide), if_pos rfl, ← HBB.out, decide_eq_false hb0]; rfl
          · by_cases d2 : dec = 2
            · subst d2
              clear d0
              go_wp2_with fail
              go_ret
              refine ⟨ret_bool ?_, HB1.out⟩
              rw [HD.out]; unfold decB
              rw [if_pos rfl, ← HA.out, HL, Bool.eq_iff_iff]; simp; omega
            · by_cases d3 : dec = 3
              · subst d3
                clear d0 d2
                go_wp2_with fail
                go_ret
                refine ⟨ret_bool ?_, HB1.out⟩
                rw [HD.out]; unfold decB
                rw [if_neg (by decide), if_pos rfl, ← HA.out, HL]
              · have q0 : (dec == 0) = false := by simpa using d0
                have q2 : (dec == 2) = false := by simpa using d2
                have q3 : (dec == 3) = false := by simpa using d3
                have HF : Hid (decB dec votes = false) := by show _ = _; unfold decB; rw [if_neg d2, if_neg d3, if_neg d0]
                clear d0 d2 d3
                go_wp2_with fail
                go_ret
                exact ⟨ret_bool (by rw [HD.out]; exact HF.out.symm), HB1.out⟩
        · have hno := Lib.hid (txn_nolen (dec := dec) (parts := parts) (votes := votes) (by have h1 := HN0.out; have h2 := HN1.out; omega))
          have hq : (!((k : Int) == (n0 : Int))) = true := by simp; omega
          go_wp2_with fail
          go_ret
          exact ⟨ret_bool hno.out.symm, HB1.out⟩

end Go.Proofs.Ytgbkjfhmbchiiaa
