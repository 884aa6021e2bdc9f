/-
  The walk of l92Coordinator: a coordinator in memory of its own. Condition: the reader's place is small.
-/
import Derived.Test.YtgbkjfhmbchiiaaM12
import Derived.Test.YtgbkjfhmbchiiaaPartsD
namespace Go.Proofs.Ytgbkjfhmbchiiaa
set_option linter.unusedVariables false
set_option linter.unusedSimpArgs false
open Go.RowKit

/-- its blocks lie below hi, too -/
def CoB (w : World) (base p hi : Nat) (v1 : Value) (ts : List TxnD) (v2 : Value) (os : List Int) : Prop :=
  ∃ (vs : List Value) (F : List Nat), w.ownsRow base 46 3 v1 ts.length vs ∧ D.ownL w (ts.flatMap fTxn) F vs ∧ w.ownsRow base 3 1 v2 os.length (os.flatMap ci) ∧ F.Nodup ∧ (∀ g ∈ F, base ≤ g ∧ g < w.heap.size ∧ g ≠ p) ∧
    (∀ g, v1.ownBlock = some g → g ∉ F ∧ g ≠ p ∧ v2.ownBlock ≠ some g) ∧ (∀ g, v2.ownBlock = some g → g ∉ F ∧ g ≠ p) ∧ (∀ g ∈ F, g < hi) ∧ (∀ g, v1.ownBlock = some g → g < hi) ∧ (∀ g, v2.ownBlock = some g → g < hi)
section
variable {w w' : World} {base p hi : Nat} {v1 v2 : Value} {ts : List TxnD} {os : List Int}
theorem CoB.co (h : CoB w base p hi v1 ts v2 os) : CoO w base p v1 ts v2 os := by
  obtain ⟨vs, F, h1, h2, h3, h4, h5, h6, h7, -⟩ := h
  exact ⟨vs, F, h1, h2, h3, h4, h5, h6, h7⟩
theorem CoO.cob (h : CoO w base p v1 ts v2 os) : CoB w base p w.heap.size v1 ts v2 os := by
  obtain ⟨vs, F, h1, h2, h3, h4, h5, h6, h7⟩ := h
  exact ⟨vs, F, h1, h2, h3, h4, h5, h6, h7, fun g hg => (h5 g hg).2.1, fun g hg => (h1.lt g hg).2, fun g hg => (h3.lt g hg).2⟩
theorem CoB.grown {row : Option Nat} (h : CoB w base p hi v1 ts v2 os) (hg : w.grownBy w' row) (hr : ∀ q, row = some q → q < base ∨ q = p ∨ hi ≤ q) : CoB w' base p hi v1 ts v2 os := by
  obtain ⟨vs, F, h1, h2, h3, h4, h5, h6, h7, h8, h9, h10⟩ := h
  have key : ∀ g, base ≤ g → g ≠ p → g < hi → some g ≠ row := fun g hg1 hg2 hg3 e => by
    rcases hr g e.symm with h | h | h
    · omega
    · exact hg2 h
    · omega
  refine ⟨vs, F, h1.kept hg ?_, D.ownL.keep _ F vs (fun g hgF => hg.block g (h5 g hgF).2.1 (key g (h5 g hgF).1 (h5 g hgF).2.2 (h8 g hgF))) h2, h3.kept hg ?_, h4, fun g hgF => ⟨(h5 g hgF).1, Nat.lt_of_lt_of_le (h5 g hgF).2.1 hg.size, (h5 g hgF).2.2⟩, h6, h7, h8, h9, h10⟩
  · rcases hv : v1.ownBlock with _ | k
    · exact .inl rfl
    · exact .inr (key k (h1.lt k hv).1 (h6 k hv).2.1 (h9 k hv))
  · rcases hv : v2.ownBlock with _ | k
    · exact .inl rfl
    · exact .inr (key k (h3.lt k hv).1 (h7 k hv).2 (h10 k hv))
end
/-- a drawn coordinator is small, its votes are small numbers -/
def DrB (n : Nat) (ts : List TxnD) (os : List Int) : Prop := ts.length ≤ 12 ∧ os.length ≤ n ∧ ∀ t ∈ ts, ∀ v ∈ t.votes, -2 ≤ v ∧ v ≤ 1
theorem drb_valid {ts : List TxnD} {os : List Int} (h : coordB ⟨ts, os⟩ = true) : DrB 12 ts os := by
  have hl := coordB_len h
  refine ⟨hl.1, hl.2, fun t ht v hv => ?_⟩
  obtain ⟨k, hk, rfl⟩ := List.getElem_of_mem ht
  have h1 := (coordB_all h k hk).1
  dsimp only at h1
  rw [List.getD_eq_getElem?_getD, List.getElem?_eq_getElem hk] at h1
  have h2 := (txnB_and h1).2.2.1
  have h3 : voteB v = true := List.all_eq_true.1 h2 v hv
  unfold voteB at h3
  rw [inR_iff] at h3
  omega
theorem DrB.more {m n : Nat} {ts : List TxnD} {os : List Int} (h : DrB m ts os) (hn : m ≤ n) : DrB n ts os := ⟨h.1, Nat.le_trans h.2.1 hn, h.2.2⟩
theorem DrB.app {n : Nat} {ts : List TxnD} {os : List Int} (h : DrB n ts os) (x : Int) : DrB (n + 1) ts (os ++ [x]) := ⟨h.1, by have := h.2.1; simp; omega, h.2.2⟩
theorem DrB.turn {n i : Nat} {ts : List TxnD} {os : List Int} (h : DrB n ts os) (hi : i < ts.length) (ps : List PartD) (d : Int) (vs : List Int) (hv : ∀ v ∈ vs, v ∈ ts[i].votes ∨ (-2 ≤ v ∧ v ≤ 1)) : DrB n (ts.set i ⟨ps, vs, d⟩) os := by
  refine ⟨by rw [List.length_set]; exact h.1, h.2.1, fun t ht v hm => ?_⟩
  rcases List.mem_or_eq_of_mem_set ht with ht | rfl
  · exact h.2.2 t ht v hm
  · rcases hv v hm with h1 | h1
    · exact h.2.2 _ (List.getElem_mem hi) v h1
    · exact h1
/-- a drawn coordinator, handed back -/
def CoD (w : World) (e : Ending) (w' : World) (g K : Nat) : Prop := ∃ (v1 v2 : Value) (ts : List TxnD) (os : List Int), CoO w' (w.heap.size + 1) w.heap.size v1 ts v2 os ∧ DrB 13 ts os ∧ DrawT w w' g K ∧ e = .returned (.agg #[v1, v2])
/-- a coordinator in the variable q, its memory below hi, behind a reader in block g -/
def CoX (w wr : World) (g q hi K : Nat) (v1 v2 : Value) (ts : List TxnD) (os : List Int) : Prop := wr.heap[q]? = some (.cells #[v1, v2] 26 (0, 0)) ∧ wr.heap[w.heap.size]? = some (.cells #[.slice none 0 0, .slice none 0 0] 26 (0, 0)) ∧ CoB wr (w.heap.size + 1) q hi v1 ts v2 os ∧ DrawT w wr g K ∧ w.heap.size < q ∧ hi ≤ wr.heap.size
/-- .. a valid one -/
def CoS (w wr : World) (g q K : Nat) : Prop := ∃ (hi : Nat) (v1 v2 : Value) (ts : List TxnD) (os : List Int), CoX w wr g q hi K v1 v2 ts os ∧ coordB ⟨ts, os⟩ = true
section
variable {w wr w' : World} {g q hi K K' : Nat} {v1 v2 : Value} {ts : List TxnD} {os : List Int}
theorem CoX.row (hg0 : g < w.heap.size) (h : CoX w wr g q hi K v1 v2 ts os) (h' : DrawT wr w' g K') : CoX w w' g q hi K' v1 v2 ts os := by
  obtain ⟨h1, h2, h3, h4, h5, h6⟩ := h
  have hb : ∀ y, y < wr.heap.size → y ≠ g → w'.heap[y]? = wr.heap[y]? := fun y hy hne => h'.1.block y hy (fun e => hne (by injection e))
  exact ⟨(hb q (hlt_of h1) (by omega)).trans h1, (hb _ (hlt_of h2) (by omega)).trans h2, h3.grown h'.1 (fun y e => by injection e with e; left; omega), h4.tr h', h5, Nat.le_trans h6 h'.1.size⟩
theorem CoX.bel (h : CoX w wr g q hi K v1 v2 ts os) (hb : Below wr.heap.size wr w') : CoX w w' g q hi K v1 v2 ts os := by
  obtain ⟨h1, h2, h3, h4, h5, h6⟩ := h
  exact ⟨(hb.block q (hlt_of h1)).trans h1, (hb.block _ (hlt_of h2)).trans h2, h3.grown (grown_none hb none) (fun y e => by cases e), ⟨grown_tr h4.1 (grown_none hb _), h4.2.grown (grown_none hb none) (fun y e => by cases e)⟩, h5, Nat.le_trans h6 hb.size⟩
theorem CoX.more (h : CoX w wr g q hi K v1 v2 ts os) (hK : K ≤ K') : CoX w wr g q hi K' v1 v2 ts os := by
  obtain ⟨h1, h2, h3, h4, h5, h6⟩ := h
  exact ⟨h1, h2, h3, h4.more hK, h5, h6⟩
theorem CoX.drew (h : CoX w wr g q hi K v1 v2 ts os) : CoX w wr.drew g q hi K v1 v2 ts os := h.bel (Below.refl _ _).drew
theorem CoX.rdr (h : CoX w wr g q hi K v1 v2 ts os) : Rdr wr g K := h.2.2.2.1.2
/-- another variable is written -/
theorem CoX.setY {y : Nat} (hg0 : g < w.heap.size) (h : CoX w wr g q hi K v1 v2 ts os) (hy : hi ≤ y) (hqy : q < y) (j : Nat) (u : Value) : CoX w (wr.setCell ⟨y, j, none⟩ u) g q hi K v1 v2 ts os := by
  obtain ⟨h1, h2, h3, h4, h5, h6⟩ := h
  exact ⟨(Below.heap_setCell wr ⟨y, j, none⟩ u q (by simp; omega)).trans h1, (Below.heap_setCell wr ⟨y, j, none⟩ u _ (by simp; omega)).trans h2, h3.grown (set_grownL wr y j u) (fun x e => by injection e with e; right; right; omega), h4.setCell (by simp; omega) hg0 u, h5, by simpa [World.setCell] using h6⟩
/-- the variable gets another coordinator -/
theorem CoX.assign {v1' v2' : Value} {ts' : List TxnD} {os' : List Int} (hg0 : g < w.heap.size) (h : CoX w wr g q hi K v1 v2 ts os) (hn : CoO wr (w.heap.size + 1) q v1' ts' v2' os') : CoX w ((wr.setCell ⟨q, 0, none⟩ v1').setCell ⟨q, 1, none⟩ v2') g q wr.heap.size K v1' v2' ts' os' := by
  obtain ⟨h1, h2, h3, h4, h5, h6⟩ := h
  have e1 : (wr.setCell ⟨q, 0, none⟩ v1').heap[q]? = some (.cells #[v1', v2] 26 (0, 0)) := by rw [heap_setCell_same _ q 0 _ _ _ h1]; rfl
  have hs : ((wr.setCell ⟨q, 0, none⟩ v1').setCell ⟨q, 1, none⟩ v2').heap.size = wr.heap.size := by simp [World.setCell]
  refine ⟨by rw [heap_setCell_same _ q 1 _ _ _ e1]; rfl, (Below.heap_setCell _ _ _ _ (by simp; omega)).trans ((Below.heap_setCell _ _ _ _ (by simp; omega)).trans h2), ?_, (h4.setCell (by simp; omega) hg0 _).setCell (by simp; omega) hg0 _, h5, by omega⟩
  have := ((hn.box 0 v1').box 1 v2').cob
  rw [hs] at this
  exact this
/-- the order gets one number more -/
theorem CoX.orderX {v2' : Value} {x : Int} {ob : Obj} {w2 : World} (hg0 : g < w.heap.size) (h : CoX w wr g q hi K v1 v2 ts os) (hown : w2.ownsRow (w.heap.size + 1) 3 1 v2' (os.length + 1) (os.flatMap ci ++ [.int .i64 x])) (hg : (wr.alloc ob).grownBy w2 v2.ownBlock)
    (hat : v2'.ownBlock = v2.ownBlock ∨ v2'.ownBlock = some (wr.alloc ob).heap.size) : CoX w (w2.setCell ⟨q, 1, none⟩ v2') g q w2.heap.size K v1 v2' ts (os ++ [x]) := by
  obtain ⟨h1, h2, h3, h4, h5, h6⟩ := h
  have hsz : (wr.alloc ob).heap.size = wr.heap.size + 1 := by simp
  have hql := hlt_of h1
  have hwl := hlt_of h2
  have hb : ∀ y, y < wr.heap.size → v2.ownBlock ≠ some y → w2.heap[y]? = wr.heap[y]? := fun y hy hne => (hg.block y (by omega) (fun e => hne e.symm)).trans (Below.heap_alloc _ _ _ hy)
  have hq2 : v2.ownBlock ≠ some q := fun e => by
    obtain ⟨vs, F, -, -, -, -, -, -, h7, -⟩ := h3
    exact (h7 q e).2 rfl
  have hw2 : v2.ownBlock ≠ some w.heap.size := fun e => by
    have := (h3.co.order.lt _ e).1
    omega
  have e1 := (hb q hql hq2).trans h1
  have hco := h3.co.appO hql hown hg hat
  have hd : DrawT w w2 g K := (h4.alloc ob).own hg0 ((h3.co.base_le (Nat.le_succ _)).order.alloc ob) hg
  have hs : (w2.setCell ⟨q, 1, none⟩ v2').heap.size = w2.heap.size := by simp [World.setCell]
  refine ⟨by rw [heap_setCell_same _ q 1 _ _ _ e1]; rfl, (Below.heap_setCell _ _ _ _ (by simp; omega)).trans ((hb _ hwl hw2).trans h2), ?_, hd.setCell (by simp; omega) hg0 _, h5, by omega⟩
  have := (hco.box 1 v2').cob
  rw [hs] at this
  exact this
/-- the variable's coordinator is handed back -/
theorem CoX.fin (hg0 : g < w.heap.size) (h : CoX w wr g q hi K v1 v2 ts os) : CoO ((wr.setCell ⟨w.heap.size, 0, none⟩ v1).setCell ⟨w.heap.size, 1, none⟩ v2) (w.heap.size + 1) w.heap.size v1 ts v2 os ∧ DrawT w ((wr.setCell ⟨w.heap.size, 0, none⟩ v1).setCell ⟨w.heap.size, 1, none⟩ v2) g K := by
  obtain ⟨h1, h2, h3, h4, h5, h6⟩ := h
  exact ⟨((h3.co.low (by omega) _ _).low (by omega) _ _).other (.inr (by omega)), (h4.setCell (Nat.le_refl _) hg0 _).setCell (Nat.le_refl _) hg0 _⟩
theorem CoX.ret (hg0 : g < w.heap.size) (h : CoX w wr g q hi K v1 v2 ts os) (hd : DrB 13 ts os) (hK : K ≤ K') : CoD w (.returned (.agg #[v1, v2])) ((wr.setCell ⟨w.heap.size, 0, none⟩ v1).setCell ⟨w.heap.size, 1, none⟩ v2) g K' :=
  ⟨v1, v2, ts, os, (h.fin hg0).1, hd, (h.fin hg0).2.more hK, rfl⟩
/-- one cell of the coordinator's own is turned -/
theorem CoX.turn {b j : Nat} {u : Value} {ts' : List TxnD} (hg0 : g < w.heap.size) (h : CoX w wr g q hi K v1 v2 ts os) (hb : w.heap.size < b) (hq : b ≠ q) (hn : CoO (wr.setCell ⟨b, j, none⟩ u) (w.heap.size + 1) q v1 ts' v2 os) : CoX w (wr.setCell ⟨b, j, none⟩ u) g q wr.heap.size K v1 v2 ts' os := by
  obtain ⟨h1, h2, h3, h4, h5, h6⟩ := h
  have hs : (wr.setCell ⟨b, j, none⟩ u).heap.size = wr.heap.size := by simp [World.setCell]
  refine ⟨(Below.heap_setCell wr ⟨b, j, none⟩ u q (by simp; omega)).trans h1, (Below.heap_setCell wr ⟨b, j, none⟩ u _ (by simp; omega)).trans h2, ?_, h4.setCell (by simp; omega) hg0 u, h5, by omega⟩
  have := hn.cob
  rw [hs] at this
  exact this
theorem CoS.row (hg0 : g < w.heap.size) (h : CoS w wr g q K) (h' : DrawT wr w' g K') : CoS w w' g q K' := by
  obtain ⟨hi, v1, v2, ts, os, h1, h2⟩ := h
  exact ⟨hi, v1, v2, ts, os, h1.row hg0 h', h2⟩
theorem CoS.more (h : CoS w wr g q K) (hK : K ≤ K') : CoS w wr g q K' := by
  obtain ⟨hi, v1, v2, ts, os, h1, h2⟩ := h
  exact ⟨hi, v1, v2, ts, os, h1.more hK, h2⟩
theorem CoS.rdr (h : CoS w wr g q K) : Rdr wr g K := by
  obtain ⟨hi, v1, v2, ts, os, h1, h2⟩ := h
  exact h1.2.2.2.1.2
end

theorem vote_cell {w : World} {base p g n c i nv gv ov cv : Nat} {v2 : Value} {ts : List TxnD} {os : List Int} (h : CoO w base p (.slice (some ⟨g, 0, none⟩) n c) ts v2 os) (hi : i < ts.length) (hn : ts[i].votes.length = nv) (hv : 0 < nv) (hc : w.cell? ⟨g, i * 3 + 1, none⟩ = some (.slice (some ⟨gv, ov, none⟩) nv cv)) :
    ∃ u, w.cell? ⟨gv, ov, none⟩ = some u ∧ w.frozen? ⟨gv, ov, none⟩ = false ∧ Hid (∀ x : Int, CoO (w.setCell ⟨gv, ov, none⟩ (.int .i64 x)) base p (.slice (some ⟨g, 0, none⟩) n c) (ts.set i ⟨ts[i].parts, ts[i].votes.set 0 x, ts[i].dec⟩) v2 os) := by
  obtain ⟨gv', ov', cv', j0, j1, j2, -, -, -, -, hset⟩ := h.setVote (k := 0) hi (by omega)
  rw [hc] at j0
  injection j0 with j0
  injection j0 with e1 e2 e3
  injection e1 with e1
  injection e1 with e1 e4
  subst e1 e4
  exact ⟨_, j1, j2, Lib.hid fun x => hset x⟩
theorem coord_nil : coordB ⟨[], []⟩ = true := by unfold coordB; simp [comms, List.mergeSort]

set_option maxHeartbeats 6400000 in
set_option maxRecDepth 100000 in
theorem l92Coordinator_any (g K : Nat) (w : World) (hK : K ≤ 1000000000 - 100000) (h : Rdr w g K) :
    Calls Try.prog 37 #[.pointer (some ⟨g, 0, none⟩)] w fun e w' => CoD w e w' g (K + 30000) := by
  have hgw := h.lt
  have HR := Lib.hid (DrawT.refl h)
  clear h
  obtain ⟨w1, hw1⟩ : ∃ w1 : World, w1 = (((w.alloc (.cells #[.slice none 0 0, .slice none 0 0] 26)).alloc (.cells #[] 46)).alloc (.cells #[] 3)).alloc (.cells #[.slice (some ⟨w.heap.size + 1, 0, none⟩) 0 0, .slice (some ⟨w.heap.size + 1 + 1, 0, none⟩) 0 0] 26) := ⟨_, rfl⟩
  obtain ⟨q, hq⟩ : ∃ q, q = w.heap.size + 1 + 1 + 1 := ⟨_, rfl⟩
  have HS1 : Hid (CoS w w1 g q K) := by
    have e0 : w1.heap[w.heap.size]? = some (.cells #[.slice none 0 0, .slice none 0 0] 26 (0, 0)) := by
      rw [hw1]; exact (Below.heap_alloc _ _ _ (by simp; omega)).trans ((Below.heap_alloc _ _ _ (by simp; omega)).trans ((Below.heap_alloc _ _ _ (by simp)).trans (heap_alloc_new w _)))
    have e1 : w1.heap[w.heap.size + 1]? = some (.cells #[] 46 (0, 0)) := by
      rw [hw1]; refine (Below.heap_alloc _ _ _ (by simp)).trans ((Below.heap_alloc _ _ _ (by simp)).trans ?_)
      have := heap_alloc_new (w.alloc (.cells #[.slice none 0 0, .slice none 0 0] 26)) (.cells #[] 46)
      simpa using this
    have e2 : w1.heap[w.heap.size + 1 + 1]? = some (.cells #[] 3 (0, 0)) := by
      rw [hw1]; refine (Below.heap_alloc _ _ _ (by simp)).trans ?_
      have := heap_alloc_new ((w.alloc (.cells #[.slice none 0 0, .slice none 0 0] 26)).alloc (.cells #[] 46)) (.cells #[] 3)
      simpa using this
    have e3 : w1.heap[q]? = some (.cells #[.slice (some ⟨w.heap.size + 1, 0, none⟩) 0 0, .slice (some ⟨w.heap.size + 1 + 1, 0, none⟩) 0 0] 26 (0, 0)) := by
      rw [hw1, hq]
      have := heap_alloc_new (((w.alloc (.cells #[.slice none 0 0, .slice none 0 0] 26)).alloc (.cells #[] 46)).alloc (.cells #[] 3)) (.cells #[.slice (some ⟨w.heap.size + 1, 0, none⟩) 0 0, .slice (some ⟨w.heap.size + 1 + 1, 0, none⟩) 0 0] 26)
      simpa using this
    refine Lib.hid ⟨_, _, _, [], [], ⟨e3, e0, CoO.cob ⟨[], [], own_nil_blk e1 (Nat.le_refl _), D.ownL.nil _, own_nil_blk e2 (by omega), List.nodup_nil, fun _ h => (by cases h), fun y hy => ⟨by simp, ?_, fun e => ?_⟩, fun y hy => ⟨by simp, ?_⟩⟩, ?_, by omega, Nat.le_refl _⟩, coord_nil⟩
    · have e : w.heap.size + 1 = y := Option.some.inj hy
      omega
    · have e' : w.heap.size + 1 = y := Option.some.inj hy
      have e'' : w.heap.size + 1 + 1 = y := Option.some.inj e
      omega
    · have e : w.heap.size + 1 + 1 = y := Option.some.inj hy
      omega
    · rw [hw1]; exact (((HR.out.alloc _).alloc _).alloc _).alloc _
  go_enter Try.func37, Try.ntmps37
  go_wp2_with fail
  rw [← hw1, ← hq]
  clear hw1 HR hq
  refine (pick_any g K 24 _ (by omega) HS1.out.rdr).mono ?_
  rintro e w2 ⟨n, hn, hR2, hg2, -, rfl⟩
  have hn24 := hn.2 (by omega)
  have HS2 := Lib.hid (HS1.out.row hgw ⟨hg2, hR2⟩)
  clear hR2 hg2 HS1 hn
  go_wp2_with fail
  refine (pick_any g (K + 1) 10 _ (by omega) HS2.out.rdr).mono ?_
  rintro e w3 ⟨r3, -, hR3, hg3, -, rfl⟩
  have HS3 := Lib.hid (HS2.out.row hgw ⟨hg3, hR3⟩)
  clear hR3 hg3 HS2
  go_upto_if 16 with (fail)
  go_cut [4] (fun v wx => ∃ n : Int, n ≤ 50 ∧ v = .int .i64 n ∧ CoS w wx g q (K + 2))
  case first =>
    rcases hx : (r3 == 0) with _ | _
    · go_wp2_with fail
      go_meet
      exact ⟨_, by omega, rfl, HS3.out⟩
    · go_wp2_with fail
      go_meet
      exact ⟨_, by omega, rfl, HS3.out⟩
  case rest =>
    obtain ⟨n4, hn4, rfl, hS⟩ := hcut
    have HS4 := Lib.hid hS
    clear hS HS3
    clear hn24
    go_wp2_with fail
    go_loopw [5] (fun i wr => ∃ k : Nat, k ≤ 50 ∧ i = .int .i64 k ∧ CoS w wr g q (K + 2 + 500 * k)) (fun i _ => 50 - (intOf i).toNat)
    case atStart => exact ⟨0, Nat.zero_le _, rfl, HS4.out⟩
    case round =>
      obtain ⟨k, hk, rfl, hS⟩ := hrel
      have HS := Lib.hid hS
      clear hS HS4
      by_cases hlt : (k : Int) < n4
      · obtain ⟨hc, v1, v2, ts, os, hX, hV⟩ := HS.out
        have HX := Lib.hid hX
        obtain ⟨A1, c1, A2, c2, rfl, rfl⟩ := hX.2.2.1.co.vals
        have q0 : wr.cell? ⟨q, 0, none⟩ = some (.slice A1 ts.length c1) := cell_of_row _ _ _ _ _ _ hX.1
        have q1 : wr.cell? ⟨q, 1, none⟩ = some (.slice A2 os.length c2) := cell_of_row _ _ _ _ _ _ hX.1
        have hql : q < wr.heap.size := hlt_of hX.1
        clear hX
        obtain ⟨y, hy⟩ : ∃ y, y = wr.heap.size := ⟨_, rfl⟩
        obtain ⟨w5, hw5⟩ : ∃ w5, w5 = wr.alloc (.cells #[.slice A1 ts.length c1, .slice A2 os.length c2] 26) := ⟨_, rfl⟩
        have HY5 : Hid (w5.heap[y]? = some (.cells #[.slice A1 ts.length c1, .slice A2 os.length c2] 26 (0, 0))) := by rw [hw5, hy]; exact Lib.hid (heap_alloc_new wr _)
        have HX5 : Hid (CoX w w5 g q hc (K + 2 + 500 * k) (.slice A1 ts.length c1) (.slice A2 os.length c2) ts os) := by rw [hw5]; exact Lib.hid (HX.out.bel ((Below.refl _ _).alloc (Nat.le_refl _) _))
        have hqy : q < y := by omega
        have hwq : w.heap.size < q := HX.out.2.2.2.2.1
        have hcy : hc ≤ y := by have := HX.out.2.2.2.2.2; omega
        have HV := Lib.hid hV
        go_upto_region 9 with (fail)
        rw [← hw5, ← hy]
        clear hw5 hy hql q0 q1 HX HS hV
        go_cut [7] (fun v wx => ∃ t : Nat, v = .int .i64 t ∧ CoX w wx g q hc (K + 2 + 500 * k + 1) (.slice A1 ts.length c1) (.slice A2 os.length c2) ts os ∧ wx.heap[y]? = some (.cells #[.slice A1 ts.length c1, .slice A2 os.length c2] 26 (0, 0)))
        case first =>
          have q0 : w5.cell? ⟨q, 0, none⟩ = some (.slice A1 ts.length c1) := cell_of_row _ _ _ _ _ _ HX5.out.1
          have hql : q < w5.heap.size := hlt_of HX5.out.1
          have HPK : ∀ m : Int, Calls Try.prog 38 #[.pointer (some ⟨g, 0, none⟩), .int .i64 m] w5 _ := fun m => pick_any g (K + 2 + 500 * k) m w5 (by omega) HX5.out.2.2.2.1.2
          go_wp2_with fail
          all_goals
            refine (HPK _).mono ?_
            rintro e w6 ⟨r, hr, hR6, hg6, -, rfl⟩
            have hr0 := hr.1
            have HX6 := Lib.hid (HX5.out.row hgw ⟨hg6, hR6⟩)
            have HY6 := Lib.hid ((hg6.block y (hlt_of HY5.out) (fun e => by injection e with e; omega)).trans HY5.out)
            clear hr hR6 hg6
            go_wp2_with fail
            go_meet
            exact ⟨r.toNat, by rw [Int.toNat_of_nonneg hr0], HX6.out, HY6.out⟩
        case rest =>
          clear HX5 HY5
          obtain ⟨t, rfl, hX, hY⟩ := hcut
          have HX := Lib.hid hX
          have HY := Lib.hid hY
          clear hX hY
          go_wp2_with fail
          refine (pick_any g (K + 2 + 500 * k + 1) 5 _ (by omega) HX.out.2.2.2.1.2).mono ?_
          rintro e w6 ⟨r6, -, hR6, hg6, -, rfl⟩
          have HX6 := Lib.hid (HX.out.row hgw ⟨hg6, hR6⟩)
          have HY6 := Lib.hid ((hg6.block y (hlt_of HY.out) (fun e => by injection e with e; omega)).trans HY.out)
          clear hR6 hg6 HX HY
          by_cases h60 : r6 = 0
          · subst h60
            have q0 : w6.cell? ⟨q, 0, none⟩ = some (.slice A1 ts.length c1) := cell_of_row _ _ _ _ _ _ HX6.out.1
            have q1 : w6.cell? ⟨q, 1, none⟩ = some (.slice A2 os.length c2) := cell_of_row _ _ _ _ _ _ HX6.out.1
            have hql : q < w6.heap.size := hlt_of HX6.out.1
            have hyq1 : ¬ (y = q) := by omega
            have hyq2 : ¬ (q = y) := by omega
            have tok1 : True := trivial
            go_wp2_with fail
            go_region_held_law (fun w' => w'.cell? ⟨q, 0, none⟩ = some (.slice A1 ts.length c1) ∧ w'.cell? ⟨q, 1, none⟩ = some (.slice A2 os.length c2)) (go_keep)
              (first
                | (go_at_call 55; have _t := tok1; go_must (refine (l92Parts_any g (K + 2 + 500 * k + 1 + 1) w6.drew (by omega) HX6.out.drew.rdr).mono ?_); rintro e w7 ⟨n, vp, hn, hP, rfl⟩; obtain ⟨ps, Bp, dp, rfl, hop, -, -⟩ := hP.out; have HPR := Lib.hid hop.rd; have HX7 := Lib.hid (HX6.out.drew.row hgw hP.drw); have HY7 := Lib.hid ((hP.drw.1.block y (hlt_of HY6.out) (fun e => by injection e with e; omega)).trans HY6.out); have q0 : w7.cell? ⟨q, 0, none⟩ = some (.slice A1 ts.length c1) := cell_of_row _ _ _ _ _ _ HX7.out.1; have q1 : w7.cell? ⟨q, 1, none⟩ = some (.slice A2 os.length c2) := cell_of_row _ _ _ _ _ _ HX7.out.1; have hyl : y < w7.heap.size := hlt_of HY7.out; have hq7 : q < w7.heap.size := hlt_of HX7.out.1; have tok3 : True := trivial; clear tok1 _t hP hop)
                | (go_at_call 54; have _t := tok3; go_must (refine (begin_any ts os ps A1 _ c1 A2 _ c2 Bp n dp w7 (w.heap.size + 1) w7.heap.size _ w7.heap.size (Nat.le_refl _) (Nat.le_refl _) HX7.out.2.2.1.co.rd.1 HX7.out.2.2.1.co.rd.2 HPR.out).mono ?_); rintro e w8 ⟨v1', v2', ts', os', b', hco, hb8, rfl⟩; obtain ⟨B1, d1, B2, d2, rfl, rfl⟩ := hco.vals; have HXa := Lib.hid (HX7.out.bel hb8); have HYa := Lib.hid ((hb8.block y hyl).trans HY7.out); have HNa := Lib.hid (hco.other (q := q) (.inr (by omega))); have y0 : w8.cell? ⟨y, 0, none⟩ = some (.slice A1 ts.length c1) := cell_of_row _ _ _ _ _ _ HYa.out; have y1 : w8.cell? ⟨y, 1, none⟩ = some (.slice A2 os.length c2) := cell_of_row _ _ _ _ _ _ HYa.out; have g0 : w8.frozen? ⟨y, 0, none⟩ = false := frozen_of_row _ _ _ _ _ HYa.out; have g1 : w8.frozen? ⟨y, 1, none⟩ = false := frozen_of_row _ _ _ _ _ HYa.out; have p0 : w8.cell? ⟨q, 0, none⟩ = some (.slice A1 ts.length c1) := cell_of_row _ _ _ _ _ _ HXa.out.1; have p1 : w8.cell? ⟨q, 1, none⟩ = some (.slice A2 os.length c2) := cell_of_row _ _ _ _ _ _ HXa.out.1; have hyl8 : y < w8.heap.size := hlt_of HYa.out; clear hco hb8 q0 q1; clear tok3 _t))
            all_goals
              have HXb := Lib.hid ((HXa.out.setY hgw hcy hqy 0 (.slice B1 ts'.length d1)).setY hgw hcy hqy 1 (.slice B2 os'.length d2))
              have HNb : Hid (CoO ((w8.setCell ⟨y, 0, none⟩ (.slice B1 ts'.length d1)).setCell ⟨y, 1, none⟩ (.slice B2 os'.length d2)) (w.heap.size + 1) q (.slice B1 ts'.length d1) ts' (.slice B2 os'.length d2) os') := Lib.hid (((HNa.out.low (by omega) _ _).low (by omega) _ _).base_le (by omega))
              have HYb : Hid (((w8.setCell ⟨y, 0, none⟩ (.slice B1 ts'.length d1)).setCell ⟨y, 1, none⟩ (.slice B2 os'.length d2)).heap[y]? = some (.cells #[.slice B1 ts'.length d1, .slice B2 os'.length d2] 26 (0, 0))) := Lib.hid (by
                have e1 : (w8.setCell ⟨y, 0, none⟩ (.slice B1 ts'.length d1)).heap[y]? = some (.cells #[.slice B1 ts'.length d1, .slice A2 os.length c2] 26 (0, 0)) := by rw [heap_setCell_same _ y 0 _ _ _ HYa.out]; rfl
                rw [heap_setCell_same _ y 1 _ _ _ e1]; rfl)
              generalize (w8.setCell ⟨y, 0, none⟩ (.slice B1 ts'.length d1)).setCell ⟨y, 1, none⟩ (.slice B2 os'.length d2) = w9 at HXb HNb HYb ⊢
              clear HXa HYa HNa HX7 HY7 y0 y1 g0 g1 hyl p0 p1
              have HX7 := HXb
              have HY7 := HYb
              have HN7 := HNb
              clear HXb HYb HNb
              have hyN := hlt_of HY7.out
              have y0 : w9.cell? ⟨y, 0, none⟩ = some (.slice B1 ts'.length d1) := cell_of_row _ _ _ _ _ _ HY7.out
              have y1 : w9.cell? ⟨y, 1, none⟩ = some (.slice B2 os'.length d2) := cell_of_row _ _ _ _ _ _ HY7.out
              go_wp2_with fail
              refine (specCoord_any ts' os' B1 _ d1 B2 _ d2 w9 (w.heap.size + 1) w9.heap.size (Nat.le_refl _) HN7.out.rd.1 HN7.out.rd.2).mono ?_
              rintro e w8 ⟨rfl, hb8⟩
              have HX8 := Lib.hid (HX7.out.bel hb8)
              have HN8 := Lib.hid (HN7.out.fresh hb8)
              have HY8 := Lib.hid ((hb8.block y hyN).trans HY7.out)
              clear hb8 y0 y1 HX7 HN7 HY7
              rcases hv : coordB ⟨ts', os'⟩ with _ | _
              · clear hv
                go_wp2_with fail
                go_round
                case rel => exact ⟨k + 1, by omega, by go_num, _, _, _, _, _, HX8.out.more (by omega), HV.out⟩
                case measure => simp [intOf]; omega
              · have HV' := Lib.hid hv
                clear hv
                have y0 : w8.cell? ⟨y, 0, none⟩ = some (.slice B1 ts'.length d1) := cell_of_row _ _ _ _ _ _ HY8.out
                have y1 : w8.cell? ⟨y, 1, none⟩ = some (.slice B2 os'.length d2) := cell_of_row _ _ _ _ _ _ HY8.out
                have q0 : w8.cell? ⟨q, 0, none⟩ = some (.slice A1 ts.length c1) := cell_of_row _ _ _ _ _ _ HX8.out.1
                have q1 : w8.cell? ⟨q, 1, none⟩ = some (.slice A2 os.length c2) := cell_of_row _ _ _ _ _ _ HX8.out.1
                have f0 : w8.frozen? ⟨q, 0, none⟩ = false := frozen_of_row _ _ _ _ _ HX8.out.1
                have f1 : w8.frozen? ⟨q, 1, none⟩ = false := frozen_of_row _ _ _ _ _ HX8.out.1
                go_wp2_with fail
                go_round
                case rel => exact ⟨k + 1, by omega, by go_num, _, _, _, _, _, (HX8.out.assign hgw HN8.out).more (by omega), HV'.out⟩
                case measure => simp [intOf]; omega
          · have h60b : (r6 == 0) = false := by simpa using h60
            by_cases h61 : r6 = 1
            · subst h61
              clear h60 h60b
              go_wp2_with fail
              refine (pick_any g (K + 2 + 500 * k + 1 + 1) 3 _ (by omega) HX6.out.rdr).mono ?_
              rintro e w7 ⟨r7, -, hR7, hg7, -, rfl⟩
              have HX7 := Lib.hid (HX6.out.row hgw ⟨hg7, hR7⟩)
              have HY7 := Lib.hid ((hg7.block y (hlt_of HY6.out) (fun e => by injection e with e; omega)).trans HY6.out)
              clear hR7 hg7 HX6 HY6
              rcases h70 : (r7 == 0) with _ | _
              · have HN7 := Lib.hid HX7.out.2.2.1.co

                have hyN := hlt_of HY7.out
                have y0 : w7.cell? ⟨y, 0, none⟩ = some (.slice A1 ts.length c1) := cell_of_row _ _ _ _ _ _ HY7.out
                have y1 : w7.cell? ⟨y, 1, none⟩ = some (.slice A2 os.length c2) := cell_of_row _ _ _ _ _ _ HY7.out
                go_wp2_with fail
                refine (specCoord_any ts os A1 _ c1 A2 _ c2 w7 (w.heap.size + 1) w7.heap.size (Nat.le_refl _) HN7.out.rd.1 HN7.out.rd.2).mono ?_
                rintro e w8 ⟨rfl, hb8⟩
                have HX8 := Lib.hid (HX7.out.bel hb8)
                have HN8 := Lib.hid (HN7.out.fresh hb8)
                have HY8 := Lib.hid ((hb8.block y hyN).trans HY7.out)
                clear hb8 y0 y1 HX7 HN7 HY7
                rcases hv : coordB ⟨ts, os⟩ with _ | _
                · clear hv
                  go_wp2_with fail
                  go_round
                  case rel => exact ⟨k + 1, by omega, by go_num, _, _, _, _, _, HX8.out.more (by omega), HV.out⟩
                  case measure => simp [intOf]; omega
                · have HV' := Lib.hid hv
                  clear hv
                  have y0 : w8.cell? ⟨y, 0, none⟩ = some (.slice A1 ts.length c1) := cell_of_row _ _ _ _ _ _ HY8.out
                  have y1 : w8.cell? ⟨y, 1, none⟩ = some (.slice A2 os.length c2) := cell_of_row _ _ _ _ _ _ HY8.out
                  have q0 : w8.cell? ⟨q, 0, none⟩ = some (.slice A1 ts.length c1) := cell_of_row _ _ _ _ _ _ HX8.out.1
                  have q1 : w8.cell? ⟨q, 1, none⟩ = some (.slice A2 os.length c2) := cell_of_row _ _ _ _ _ _ HX8.out.1
                  have f0 : w8.frozen? ⟨q, 0, none⟩ = false := frozen_of_row _ _ _ _ _ HX8.out.1
                  have f1 : w8.frozen? ⟨q, 1, none⟩ = false := frozen_of_row _ _ _ _ _ HX8.out.1
                  go_wp2_with fail
                  go_round
                  case rel => exact ⟨k + 1, by omega, by go_num, _, _, _, _, _, (HX8.out.assign hgw HN8.out).more (by omega), HV'.out⟩
                  case measure => simp [intOf]; omega
              · have q0 : w7.cell? ⟨q, 0, none⟩ = some (.slice A1 ts.length c1) := cell_of_row _ _ _ _ _ _ HX7.out.1
                have q1 : w7.cell? ⟨q, 1, none⟩ = some (.slice A2 os.length c2) := cell_of_row _ _ _ _ _ _ HX7.out.1
                have hyl : y < w7.heap.size := hlt_of HY7.out
                go_wp2_with fail
                refine (ctimeout_any ts os t A1 _ c1 A2 _ c2 w7 (w.heap.size + 1) w7.heap.size (Nat.le_refl _) HX7.out.2.2.1.co.rd.1 HX7.out.2.2.1.co.rd.2).mono ?_
                rintro e w8 ⟨v1', v2', ts', os', b', hco, hb8, rfl⟩
                obtain ⟨B1, d1, B2, d2, rfl, rfl⟩ := hco.vals
                have HXa := Lib.hid (HX7.out.bel hb8)
                have HYa := Lib.hid ((hb8.block y hyl).trans HY7.out)
                have HNa := Lib.hid (hco.other (q := q) (.inr (by omega)))
                have y0 : w8.cell? ⟨y, 0, none⟩ = some (.slice A1 ts.length c1) := cell_of_row _ _ _ _ _ _ HYa.out
                have y1 : w8.cell? ⟨y, 1, none⟩ = some (.slice A2 os.length c2) := cell_of_row _ _ _ _ _ _ HYa.out
                have g0 : w8.frozen? ⟨y, 0, none⟩ = false := frozen_of_row _ _ _ _ _ HYa.out
                have g1 : w8.frozen? ⟨y, 1, none⟩ = false := frozen_of_row _ _ _ _ _ HYa.out
                clear hco hb8 q0 q1
                go_upto_region 17 with (fail)
                have HXb := Lib.hid ((HXa.out.setY hgw hcy hqy 0 (.slice B1 ts'.length d1)).setY hgw hcy hqy 1 (.slice B2 os'.length d2))
                have HNb : Hid (CoO ((w8.setCell ⟨y, 0, none⟩ (.slice B1 ts'.length d1)).setCell ⟨y, 1, none⟩ (.slice B2 os'.length d2)) (w.heap.size + 1) q (.slice B1 ts'.length d1) ts' (.slice B2 os'.length d2) os') := Lib.hid (((HNa.out.low (by omega) _ _).low (by omega) _ _).base_le (by omega))
                have HYb : Hid (((w8.setCell ⟨y, 0, none⟩ (.slice B1 ts'.length d1)).setCell ⟨y, 1, none⟩ (.slice B2 os'.length d2)).heap[y]? = some (.cells #[.slice B1 ts'.length d1, .slice B2 os'.length d2] 26 (0, 0))) := Lib.hid (by
                  have e1 : (w8.setCell ⟨y, 0, none⟩ (.slice B1 ts'.length d1)).heap[y]? = some (.cells #[.slice B1 ts'.length d1, .slice A2 os.length c2] 26 (0, 0)) := by rw [heap_setCell_same _ y 0 _ _ _ HYa.out]; rfl
                  rw [heap_setCell_same _ y 1 _ _ _ e1]; rfl)
                generalize (w8.setCell ⟨y, 0, none⟩ (.slice B1 ts'.length d1)).setCell ⟨y, 1, none⟩ (.slice B2 os'.length d2) = w9 at HXb HNb HYb ⊢
                clear HXa HYa HNa HX7 HY7 y0 y1 g0 g1 hyl
                have HX7 := HXb
                have HY7 := HYb
                have HN7 := HNb
                clear HXb HYb HNb
                have hyN := hlt_of HY7.out
                have y0 : w9.cell? ⟨y, 0, none⟩ = some (.slice B1 ts'.length d1) := cell_of_row _ _ _ _ _ _ HY7.out
                have y1 : w9.cell? ⟨y, 1, none⟩ = some (.slice B2 os'.length d2) := cell_of_row _ _ _ _ _ _ HY7.out
                go_wp2_with fail
                refine (specCoord_any ts' os' B1 _ d1 B2 _ d2 w9 (w.heap.size + 1) w9.heap.size (Nat.le_refl _) HN7.out.rd.1 HN7.out.rd.2).mono ?_
                rintro e w8 ⟨rfl, hb8⟩
                have HX8 := Lib.hid (HX7.out.bel hb8)
                have HN8 := Lib.hid (HN7.out.fresh hb8)
                have HY8 := Lib.hid ((hb8.block y hyN).trans HY7.out)
                clear hb8 y0 y1 HX7 HN7 HY7
                rcases hv : coordB ⟨ts', os'⟩ with _ | _
                · clear hv
                  go_wp2_with fail
                  go_round
                  case rel => exact ⟨k + 1, by omega, by go_num, _, _, _, _, _, HX8.out.more (by omega), HV.out⟩
                  case measure => simp [intOf]; omega
                · have HV' := Lib.hid hv
                  clear hv
                  have y0 : w8.cell? ⟨y, 0, none⟩ = some (.slice B1 ts'.length d1) := cell_of_row _ _ _ _ _ _ HY8.out
                  have y1 : w8.cell? ⟨y, 1, none⟩ = some (.slice B2 os'.length d2) := cell_of_row _ _ _ _ _ _ HY8.out
                  have q0 : w8.cell? ⟨q, 0, none⟩ = some (.slice A1 ts.length c1) := cell_of_row _ _ _ _ _ _ HX8.out.1
                  have q1 : w8.cell? ⟨q, 1, none⟩ = some (.slice A2 os.length c2) := cell_of_row _ _ _ _ _ _ HX8.out.1
                  have f0 : w8.frozen? ⟨q, 0, none⟩ = false := frozen_of_row _ _ _ _ _ HX8.out.1
                  have f1 : w8.frozen? ⟨q, 1, none⟩ = false := frozen_of_row _ _ _ _ _ HX8.out.1
                  go_wp2_with fail
                  go_round
                  case rel => exact ⟨k + 1, by omega, by go_num, _, _, _, _, _, (HX8.out.assign hgw HN8.out).more (by omega), HV'.out⟩
                  case measure => simp [intOf]; omega
            · have h61b : (r6 == 1) = false := by simpa using h61
              clear h60 h61
              have q0 : w6.cell? ⟨q, 0, none⟩ = some (.slice A1 ts.length c1) := cell_of_row _ _ _ _ _ _ HX6.out.1
              have q1 : w6.cell? ⟨q, 1, none⟩ = some (.slice A2 os.length c2) := cell_of_row _ _ _ _ _ _ HX6.out.1
              have hql : q < w6.heap.size := hlt_of HX6.out.1
              have hyq1 : ¬ (y = q) := by omega
              have hyq2 : ¬ (q = y) := by omega
              have tok1 : True := trivial
              go_wp2_with fail
              go_region_held_law (fun w' => w'.cell? ⟨q, 0, none⟩ = some (.slice A1 ts.length c1) ∧ w'.cell? ⟨q, 1, none⟩ = some (.slice A2 os.length c2)) (go_keep)
                (first
                  | (go_at_call 38; have _t := tok1; go_must (refine (pick_any g (K + 2 + 500 * k + 1 + 1) 3 w6.drew (by omega) HX6.out.drew.rdr).mono ?_); rintro e wa ⟨ra, -, hRa, hga, -, rfl⟩; have HXp := Lib.hid (HX6.out.drew.row hgw ⟨hga, hRa⟩); have HYp := Lib.hid ((hga.block y (hlt_of HY6.out) (fun e => by injection e with e; omega)).trans HY6.out); have q0' : wa.cell? ⟨q, 0, none⟩ = some (.slice A1 ts.length c1) := cell_of_row _ _ _ _ _ _ HXp.out.1; have q1' : wa.cell? ⟨q, 1, none⟩ = some (.slice A2 os.length c2) := cell_of_row _ _ _ _ _ _ HXp.out.1; have hqa : q < wa.heap.size := hlt_of HXp.out.1; have tok2 : True := trivial; clear tok1 _t hRa hga)
                  | (go_at_call 38; have _t := tok2; go_must (refine (pick_any g (K + 2 + 500 * k + 1 + 1 + 1) 6 wa (by omega) HXp.out.rdr).mono ?_); rintro e w7 ⟨rb, -, hRb, hgb, -, rfl⟩; have HX7 := Lib.hid (HXp.out.row hgw ⟨hgb, hRb⟩); have HY7 := Lib.hid ((hgb.block y (hlt_of HYp.out) (fun e => by injection e with e; omega)).trans HYp.out); have q0 : w7.cell? ⟨q, 0, none⟩ = some (.slice A1 ts.length c1) := cell_of_row _ _ _ _ _ _ HX7.out.1; have q1 : w7.cell? ⟨q, 1, none⟩ = some (.slice A2 os.length c2) := cell_of_row _ _ _ _ _ _ HX7.out.1; have hyl : y < w7.heap.size := hlt_of HY7.out; have hq7 : q < w7.heap.size := hlt_of HX7.out.1; have tok3 : True := trivial; clear tok2 _t hRb hgb)
                  | (go_at_call 57; have _t := tok3; go_must (refine (cvote_any ts os t _ _ A1 _ c1 A2 _ c2 w7 (w.heap.size + 1) w7.heap.size (Nat.le_refl _) HX7.out.2.2.1.co.rd.1 HX7.out.2.2.1.co.rd.2).mono ?_); rintro e w8 ⟨v1', v2', ts', os', b', hco, hb8, rfl⟩; obtain ⟨B1, d1, B2, d2, rfl, rfl⟩ := hco.vals; have HXa := Lib.hid (HX7.out.bel hb8); have HYa := Lib.hid ((hb8.block y hyl).trans HY7.out); have HNa := Lib.hid (hco.other (q := q) (.inr (by omega))); have y0 : w8.cell? ⟨y, 0, none⟩ = some (.slice A1 ts.length c1) := cell_of_row _ _ _ _ _ _ HYa.out; have y1 : w8.cell? ⟨y, 1, none⟩ = some (.slice A2 os.length c2) := cell_of_row _ _ _ _ _ _ HYa.out; have g0 : w8.frozen? ⟨y, 0, none⟩ = false := frozen_of_row _ _ _ _ _ HYa.out; have g1 : w8.frozen? ⟨y, 1, none⟩ = false := frozen_of_row _ _ _ _ _ HYa.out; have p0 : w8.cell? ⟨q, 0, none⟩ = some (.slice A1 ts.length c1) := cell_of_row _ _ _ _ _ _ HXa.out.1; have p1 : w8.cell? ⟨q, 1, none⟩ = some (.slice A2 os.length c2) := cell_of_row _ _ _ _ _ _ HXa.out.1; have hyl8 : y < w8.heap.size := hlt_of HYa.out; clear hco hb8 q0 q1; clear tok3 _t))
              all_goals
                have HXb := Lib.hid ((HXa.out.setY hgw hcy hqy 0 (.slice B1 ts'.length d1)).setY hgw hcy hqy 1 (.slice B2 os'.length d2))
                have HNb : Hid (CoO ((w8.setCell ⟨y, 0, none⟩ (.slice B1 ts'.length d1)).setCell ⟨y, 1, none⟩ (.slice B2 os'.length d2)) (w.heap.size + 1) q (.slice B1 ts'.length d1) ts' (.slice B2 os'.length d2) os') := Lib.hid (((HNa.out.low (by omega) _ _).low (by omega) _ _).base_le (by omega))
                have HYb : Hid (((w8.setCell ⟨y, 0, none⟩ (.slice B1 ts'.length d1)).setCell ⟨y, 1, none⟩ (.slice B2 os'.length d2)).heap[y]? = some (.cells #[.slice B1 ts'.length d1, .slice B2 os'.length d2] 26 (0, 0))) := Lib.hid (by
                  have e1 : (w8.setCell ⟨y, 0, none⟩ (.slice B1 ts'.length d1)).heap[y]? = some (.cells #[.slice B1 ts'.length d1, .slice A2 os.length c2] 26 (0, 0)) := by rw [heap_setCell_same _ y 0 _ _ _ HYa.out]; rfl
                  rw [heap_setCell_same _ y 1 _ _ _ e1]; rfl)
                generalize (w8.setCell ⟨y, 0, none⟩ (.slice B1 ts'.length d1)).setCell ⟨y, 1, none⟩ (.slice B2 os'.length d2) = w9 at HXb HNb HYb ⊢
                clear HXa HYa HNa HX7 HY7 y0 y1 g0 g1 hyl p0 p1
                have HX7 := HXb
                have HY7 := HYb
                have HN7 := HNb
                clear HXb HYb HNb
                have hyN := hlt_of HY7.out
                have y0 : w9.cell? ⟨y, 0, none⟩ = some (.slice B1 ts'.length d1) := cell_of_row _ _ _ _ _ _ HY7.out
                have y1 : w9.cell? ⟨y, 1, none⟩ = some (.slice B2 os'.length d2) := cell_of_row _ _ _ _ _ _ HY7.out
                go_wp2_with fail
                refine (specCoord_any ts' os' B1 _ d1 B2 _ d2 w9 (w.heap.size + 1) w9.heap.size (Nat.le_refl _) HN7.out.rd.1 HN7.out.rd.2).mono ?_
                rintro e w8 ⟨rfl, hb8⟩
                have HX8 := Lib.hid (HX7.out.bel hb8)
                have HN8 := Lib.hid (HN7.out.fresh hb8)
                have HY8 := Lib.hid ((hb8.block y hyN).trans HY7.out)
                clear hb8 y0 y1 HX7 HN7 HY7
                rcases hv : coordB ⟨ts', os'⟩ with _ | _
                · clear hv
                  go_wp2_with fail
                  go_round
                  case rel => exact ⟨k + 1, by omega, by go_num, _, _, _, _, _, HX8.out.more (by omega), HV.out⟩
                  case measure => simp [intOf]; omega
                · have HV' := Lib.hid hv
                  clear hv
                  have y0 : w8.cell? ⟨y, 0, none⟩ = some (.slice B1 ts'.length d1) := cell_of_row _ _ _ _ _ _ HY8.out
                  have y1 : w8.cell? ⟨y, 1, none⟩ = some (.slice B2 os'.length d2) := cell_of_row _ _ _ _ _ _ HY8.out
                  have q0 : w8.cell? ⟨q, 0, none⟩ = some (.slice A1 ts.length c1) := cell_of_row _ _ _ _ _ _ HX8.out.1
                  have q1 : w8.cell? ⟨q, 1, none⟩ = some (.slice A2 os.length c2) := cell_of_row _ _ _ _ _ _ HX8.out.1
                  have f0 : w8.frozen? ⟨q, 0, none⟩ = false := frozen_of_row _ _ _ _ _ HX8.out.1
                  have f1 : w8.frozen? ⟨q, 1, none⟩ = false := frozen_of_row _ _ _ _ _ HX8.out.1
                  go_wp2_with fail
                  go_round
                  case rel => exact ⟨k + 1, by omega, by go_num, _, _, _, _, _, (HX8.out.assign hgw HN8.out).more (by omega), HV'.out⟩
                  case measure => simp [intOf]; omega
      · obtain ⟨hc, v1, v2, ts, os, hX, hV⟩ := HS.out
        have HDB := Lib.hid (drb_valid hV)
        have HOL : Hid (os.length ≤ 1000) := Lib.hid (by have := HDB.out.2.1; omega)
        clear hV
        have HX := Lib.hid (hX.more (K' := K + 25002) (by omega))
        obtain ⟨A1, c1, A2, c2, rfl, rfl⟩ := hX.2.2.1.co.vals
        clear hX HS
        have q0 : wr.cell? ⟨q, 0, none⟩ = some (.slice A1 ts.length c1) := cell_of_row _ _ _ _ _ _ HX.out.1
        by_cases hl0 : ts.length = 0
        · have hl0b : ((ts.length : Int) == 0) = true := by simp [hl0]
          clear hl0
          have q0 : wr.cell? ⟨q, 0, none⟩ = some (.slice A1 ts.length c1) := cell_of_row _ _ _ _ _ _ HX.out.1
          have q1 : wr.cell? ⟨q, 1, none⟩ = some (.slice A2 os.length c2) := cell_of_row _ _ _ _ _ _ HX.out.1
          have e0 : wr.cell? ⟨w.heap.size, 0, none⟩ = some (.slice none 0 0) := cell_of_row _ _ _ _ _ _ HX.out.2.1
          have e1 : wr.cell? ⟨w.heap.size, 1, none⟩ = some (.slice none 0 0) := cell_of_row _ _ _ _ _ _ HX.out.2.1
          have f0 : wr.frozen? ⟨w.heap.size, 0, none⟩ = false := frozen_of_row _ _ _ _ _ HX.out.2.1
          have f1 : wr.frozen? ⟨w.heap.size, 1, none⟩ = false := frozen_of_row _ _ _ _ _ HX.out.2.1
          go_wp2_with fail
          exact bodyPost_ret (v := .agg #[.slice A1 ts.length c1, .slice A2 os.length c2]) (by simp [results, Try.results37, go_sem, e0, e1, f0, f1]) rfl (HX.out.ret hgw (HDB.out.more (by omega)) (by omega))
        · have hl0b : ((ts.length : Int) == 0) = false := by simp; exact fun h => hl0 (by rw [h]; rfl)
          have hl1 : 1 ≤ ts.length := by omega
          obtain ⟨gT, rfl, -, hgT1, hgT2, hgT3⟩ := HX.out.2.2.1.co.at_ (by omega)
          have hgT4 : ¬ (gT = q) := hgT2
          have hgT5 : ¬ (q = gT) := fun e => hgT2 e.symm
          clear hl0
          go_wp2_with fail
          refine (pick_any g (K + 25002) (ts.length : Int) wr (by omega) HX.out.rdr).mono ?_
          rintro e w2 ⟨r2, hr2, hR2, hg2, -, rfl⟩
          obtain ⟨i, rfl⟩ : ∃ i : Nat, r2 = i := ⟨r2.toNat, by have := hr2.1; omega⟩
          have hi : i < ts.length := by have := hr2.2 (by omega); omega
          have HX2 := Lib.hid (HX.out.row hgw ⟨hg2, hR2⟩)
          clear hR2 hg2 HX q0 hr2
          go_wp2_with fail
          refine (pick_any g (K + 25002 + 1) 20 w2 (by omega) HX2.out.rdr).mono ?_
          rintro e w3 ⟨r3, -, hR3, hg3, -, rfl⟩
          have HX3 := Lib.hid (HX2.out.row hgw ⟨hg3, hR3⟩)
          clear hR3 hg3 HX2
          by_cases h30 : r3 = 0
          · subst h30
            have q0 : w3.cell? ⟨q, 0, none⟩ = some (.slice (some ⟨gT, 0, none⟩) ts.length c1) := cell_of_row _ _ _ _ _ _ HX3.out.1
            have hql : q < w3.heap.size := hlt_of HX3.out.1
            have tok1 : True := trivial
            go_wp2_with fail
            go_region_held_law (fun w' => w'.cell? ⟨q, 0, none⟩ = some (.slice (some ⟨gT, 0, none⟩) ts.length c1)) (go_keep)
              (first | (go_at_call 38; have _t := tok1; go_must (refine (pick_any g (K + 25002 + 1 + 1) 5 w3.drew (by omega) HX3.out.drew.rdr).mono ?_); rintro e w4 ⟨r4, -, hR4, hg4, -, rfl⟩; have HX4 := Lib.hid (HX3.out.drew.row hgw ⟨hg4, hR4⟩); have HD := Lib.hid (fun x => HX4.out.2.2.1.co.setDec (i := i) hi x); obtain ⟨⟨u, d0⟩, d1, -⟩ := HD.out 0; have q0 : w4.cell? ⟨q, 0, none⟩ = some (.slice (some ⟨gT, 0, none⟩) ts.length c1) := cell_of_row _ _ _ _ _ _ HX4.out.1; have hql4 : q < w4.heap.size := hlt_of HX4.out.1; have hgl4 : gT < w4.heap.size := World.block_lt_of_cell? _ _ d0; clear tok1 _t hR4 hg4))
            all_goals
              have HX5 := Lib.hid (HX4.out.turn hgw (by omega) hgT2 (HD.out r4).2.2)
              generalize w4.setCell ⟨gT, i * 3 + 2, none⟩ (.int .i64 r4) = w5 at HX5 ⊢
              clear q0 d0 d1
              have q0 : w5.cell? ⟨q, 0, none⟩ = some (.slice (some ⟨gT, 0, none⟩) ts.length c1) := cell_of_row _ _ _ _ _ _ HX5.out.1
              have q1 : w5.cell? ⟨q, 1, none⟩ = some (.slice A2 os.length c2) := cell_of_row _ _ _ _ _ _ HX5.out.1
              have e0 : w5.cell? ⟨w.heap.size, 0, none⟩ = some (.slice none 0 0) := cell_of_row _ _ _ _ _ _ HX5.out.2.1
              have e1 : w5.cell? ⟨w.heap.size, 1, none⟩ = some (.slice none 0 0) := cell_of_row _ _ _ _ _ _ HX5.out.2.1
              have f0 : w5.frozen? ⟨w.heap.size, 0, none⟩ = false := frozen_of_row _ _ _ _ _ HX5.out.2.1
              have f1 : w5.frozen? ⟨w.heap.size, 1, none⟩ = false := frozen_of_row _ _ _ _ _ HX5.out.2.1
              go_wp2_with fail
              exact bodyPost_ret (v := .agg #[.slice (some ⟨gT, 0, none⟩) ts.length c1, .slice A2 os.length c2]) (by simp [results, Try.results37, go_sem, e0, e1, f0, f1]) rfl (HX5.out.ret hgw ((HDB.out.turn hi _ _ _ (fun v h => .inl h)).more (by omega)) (by omega))
          · have h30b : (r3 == 0) = false := by simpa using h30
            by_cases h31 : r3 = 1
            · subst h31
              have q1 : w3.cell? ⟨q, 1, none⟩ = some (.slice A2 os.length c2) := cell_of_row _ _ _ _ _ _ HX3.out.1
              have hql : q < w3.heap.size := hlt_of HX3.out.1
              have hqf : w3.frozen? ⟨q, 1, none⟩ = false := frozen_of_row _ _ _ _ _ HX3.out.1
              have hw3s : w.heap.size < w3.heap.size := hlt_of HX3.out.2.1
              have HOR := Lib.hid HX3.out.2.2.1.co.order
              have hol : os.length ≤ 1000 := HOL.out
              have h2q : (Value.slice A2 os.length c2).ownBlock ≠ some q := fun e => by
                obtain ⟨vs, F, -, -, -, -, -, -, h7, -⟩ := HX3.out.2.2.1
                exact (h7 q e).2 rfl
              have h2w : (Value.slice A2 os.length c2).ownBlock ≠ some w.heap.size := fun e => by
                have := (HX3.out.2.2.1.co.order.lt _ e).1
                omega
              clear h30 h30b
              go_upto_region 30 with (at_builtin; go_must (refine wpList_app_at Try.elI (m := 1) (HOR.out.alloc _) (rd_newn (n := w3.heap.size) rfl [.int .i64 (i : Int)] 3) rfl (by simp [Value.oneCell']) (by unfold maxLen; omega) (by omega) (by first | (simp; done) | (simp; omega)) rfl rfl rfl rfl ?_); intro v6 w6 hown6 hg6 hat6; go_must (have HX6 := Lib.hid (HX3.out.orderX hgw hown6 hg6 hat6)); obtain ⟨B6, d6, rfl, -, -, -⟩ := Rd.of_own hown6; have HQ6 := Lib.hid (((hg6.block q (by first | (simp; done) | (simp; omega)) (fun e => h2q e.symm)).trans (Below.heap_alloc _ _ _ hql)).trans HX3.out.1); have s1 : w6.cell? ⟨q, 1, none⟩ = some (.slice A2 os.length c2) := cell_of_row _ _ _ _ _ _ HQ6.out; have sf : w6.frozen? ⟨q, 1, none⟩ = false := frozen_of_row _ _ _ _ _ HQ6.out; clear hown6 hg6 hat6 q1)
              generalize w6.setCell ⟨q, 1, none⟩ (.slice B6 (os.length + 1) d6) = w7 at HX6 ⊢
              clear s1 sf HQ6
              have q0 : w7.cell? ⟨q, 0, none⟩ = some (.slice (some ⟨gT, 0, none⟩) ts.length c1) := cell_of_row _ _ _ _ _ _ HX6.out.1
              have q1 : w7.cell? ⟨q, 1, none⟩ = some (.slice B6 (os.length + 1) d6) := cell_of_row _ _ _ _ _ _ HX6.out.1
              have e0 : w7.cell? ⟨w.heap.size, 0, none⟩ = some (.slice none 0 0) := cell_of_row _ _ _ _ _ _ HX6.out.2.1
              have e1 : w7.cell? ⟨w.heap.size, 1, none⟩ = some (.slice none 0 0) := cell_of_row _ _ _ _ _ _ HX6.out.2.1
              have f0 : w7.frozen? ⟨w.heap.size, 0, none⟩ = false := frozen_of_row _ _ _ _ _ HX6.out.2.1
              have f1 : w7.frozen? ⟨w.heap.size, 1, none⟩ = false := frozen_of_row _ _ _ _ _ HX6.out.2.1
              go_wp2_with fail
              exact bodyPost_ret (v := .agg #[.slice (some ⟨gT, 0, none⟩) ts.length c1, .slice B6 (os.length + 1) d6]) (by simp [results, Try.results37, go_sem, e0, e1, f0, f1]) rfl (HX6.out.ret hgw (HDB.out.app _) (by omega))
            · have h31b : (r3 == 1) = false := by simpa using h31
              by_cases h32 : r3 = 2
              · subst h32
                clear h30 h31 h30b h31b
                have q0 : w3.cell? ⟨q, 0, none⟩ = some (.slice (some ⟨gT, 0, none⟩) ts.length c1) := cell_of_row _ _ _ _ _ _ HX3.out.1
                have hql : q < w3.heap.size := hlt_of HX3.out.1
                by_cases hv0 : ts[i].votes.length = 0
                · obtain ⟨b, o, hl, Ap, np, cp, Av, nv, cv, he, _, hbh, hc0, hc1, hc2, -, ⟨hn6, hm6, hr6⟩⟩ := rd_Txn HX3.out.2.2.1.co.rd.1 (k := i) (by omega)
                  injection he with he
                  injection he with hea heb
                  subst hea heb
                  have hnv : nv = 0 := by have := hr6.ints.1; omega
                  subst hnv
                  rw [Nat.zero_add] at hc1
                  clear hc0 hc2 hn6 hm6 hr6 hv0
                  go_upto_region 30 with (fail)
                  clear q0 hc1
                  have q0 : w3.cell? ⟨q, 0, none⟩ = some (.slice (some ⟨gT, 0, none⟩) ts.length c1) := cell_of_row _ _ _ _ _ _ HX3.out.1
                  have q1 : w3.cell? ⟨q, 1, none⟩ = some (.slice A2 os.length c2) := cell_of_row _ _ _ _ _ _ HX3.out.1
                  have e0 : w3.cell? ⟨w.heap.size, 0, none⟩ = some (.slice none 0 0) := cell_of_row _ _ _ _ _ _ HX3.out.2.1
                  have e1 : w3.cell? ⟨w.heap.size, 1, none⟩ = some (.slice none 0 0) := cell_of_row _ _ _ _ _ _ HX3.out.2.1
                  have f0 : w3.frozen? ⟨w.heap.size, 0, none⟩ = false := frozen_of_row _ _ _ _ _ HX3.out.2.1
                  have f1 : w3.frozen? ⟨w.heap.size, 1, none⟩ = false := frozen_of_row _ _ _ _ _ HX3.out.2.1
                  go_wp2_with fail
                  exact bodyPost_ret (v := .agg #[.slice (some ⟨gT, 0, none⟩) ts.length c1, .slice A2 os.length c2]) (by simp [results, Try.results37, go_sem, e0, e1, f0, f1]) rfl (HX3.out.ret hgw (HDB.out.more (by omega)) (by omega))
                · have hvl : 0 < ts[i].votes.length := by omega
                  have hvl' : (0 : Int) < (ts[i].votes.length : Int) := by omega
                  obtain ⟨gv, ov, cv, j0, -, -, hne, hnp, hgv, hgvb, -⟩ := HX3.out.2.2.1.co.setVote hi hvl
                  have hgl : gT < w3.heap.size := World.block_lt_of_cell? _ _ j0
                  have hnp1 : ¬ (gv = q) := hnp
                  have hnp2 : ¬ (q = gv) := fun e => hnp e.symm
                  have hne1 : ¬ (gv = gT) := hne
                  have hne2 : ¬ (gT = gv) := fun e => hne e.symm
                  have tok1 : True := trivial
                  clear hv0
                  generalize hvn : ts[i].votes.length = nv at j0 hvl hvl'
                  have HVN := Lib.hid hvn
                  clear hvn
                  go_wp2_with fail
                  go_region_held_law (fun w' => w'.cell? ⟨q, 0, none⟩ = some (.slice (some ⟨gT, 0, none⟩) ts.length c1) ∧ w'.cell? ⟨gT, i * 3 + 1, none⟩ = some (.slice (some ⟨gv, ov, none⟩) nv cv)) (go_keep)
                    (first | (go_at_call 38; have _t := tok1; go_must (refine (pick_any g (K + 25002 + 1 + 1) 4 w3.drew (by omega) HX3.out.drew.rdr).mono ?_); rintro e w4 ⟨r4, hr4, hR4, hg4, -, rfl⟩; have hr41 := hr4.1; have hr42 := hr4.2 (by omega); have HX4 := Lib.hid (HX3.out.drew.row hgw ⟨hg4, hR4⟩); have i0 : w4.cell? ⟨gT, i * 3 + 1, none⟩ = some (.slice (some ⟨gv, ov, none⟩) nv cv) := (World.cell?_of_block (hg4.block gT hgl (fun e => by injection e with e; omega))).trans j0; go_must (have HVC : ∃ u, w4.cell? ⟨gv, ov, none⟩ = some u ∧ w4.frozen? ⟨gv, ov, none⟩ = false ∧ Hid (∀ x : Int, CoO (w4.setCell ⟨gv, ov, none⟩ (.int .i64 x)) (w.heap.size + 1) q (.slice (some ⟨gT, 0, none⟩) ts.length c1) (ts.set i ⟨ts[i].parts, ts[i].votes.set 0 x, ts[i].dec⟩) (.slice A2 os.length c2) os) := vote_cell HX4.out.2.2.1.co hi HVN.out hvl i0); obtain ⟨u, m1, m2, HSET⟩ := HVC; have q0 : w4.cell? ⟨q, 0, none⟩ = some (.slice (some ⟨gT, 0, none⟩) ts.length c1) := cell_of_row _ _ _ _ _ _ HX4.out.1; have hql4 : q < w4.heap.size := hlt_of HX4.out.1; have hgl4 : gT < w4.heap.size := World.block_lt_of_cell? _ _ i0; clear tok1 _t hR4 hg4 hr4))
                  all_goals
                    have hwr : IntKind.i64.wrap (r4 - 2) = r4 - 2 := IntWalk.i64_in _ (by omega)
                    have HX5 := Lib.hid (HX4.out.turn hgw (by omega) hnp (HSET.out (IntKind.i64.wrap (r4 - 2))))
                    have HDB5 := Lib.hid (HDB.out.turn hi ts[i].parts ts[i].dec (ts[i].votes.set 0 (IntKind.i64.wrap (r4 - 2))) (fun v hm => by
                      rcases List.mem_or_eq_of_mem_set hm with h | h
                      · exact .inl h
                      · right; rw [h, hwr]; omega))
                    clear hwr HSET
                    generalize w4.setCell ⟨gv, ov, none⟩ (.int .i64 (IntKind.i64.wrap (r4 - 2))) = w5 at HX5 ⊢
                    generalize ts.set i ⟨ts[i].parts, ts[i].votes.set 0 (IntKind.i64.wrap (r4 - 2)), ts[i].dec⟩ = ts5 at HX5 HDB5
                    clear q0 m1 m2 i0
                    have q0 : w5.cell? ⟨q, 0, none⟩ = some (.slice (some ⟨gT, 0, none⟩) ts.length c1) := cell_of_row _ _ _ _ _ _ HX5.out.1
                    have q1 : w5.cell? ⟨q, 1, none⟩ = some (.slice A2 os.length c2) := cell_of_row _ _ _ _ _ _ HX5.out.1
                    have e0 : w5.cell? ⟨w.heap.size, 0, none⟩ = some (.slice none 0 0) := cell_of_row _ _ _ _ _ _ HX5.out.2.1
                    have e1 : w5.cell? ⟨w.heap.size, 1, none⟩ = some (.slice none 0 0) := cell_of_row _ _ _ _ _ _ HX5.out.2.1
                    have f0 : w5.frozen? ⟨w.heap.size, 0, none⟩ = false := frozen_of_row _ _ _ _ _ HX5.out.2.1
                    have f1 : w5.frozen? ⟨w.heap.size, 1, none⟩ = false := frozen_of_row _ _ _ _ _ HX5.out.2.1
                    go_wp2_with fail
                    exact bodyPost_ret (v := .agg #[.slice (some ⟨gT, 0, none⟩) ts.length c1, .slice A2 os.length c2]) (by simp [results, Try.results37, go_sem, e0, e1, f0, f1]) rfl (HX5.out.ret hgw (HDB5.out.more (by omega)) (by omega))
              · have h32b : (r3 == 2) = false := by simpa using h32
                clear h30 h31 h32
                have q0 : w3.cell? ⟨q, 0, none⟩ = some (.slice (some ⟨gT, 0, none⟩) ts.length c1) := cell_of_row _ _ _ _ _ _ HX3.out.1
                have q1 : w3.cell? ⟨q, 1, none⟩ = some (.slice A2 os.length c2) := cell_of_row _ _ _ _ _ _ HX3.out.1
                have e0 : w3.cell? ⟨w.heap.size, 0, none⟩ = some (.slice none 0 0) := cell_of_row _ _ _ _ _ _ HX3.out.2.1
                have e1 : w3.cell? ⟨w.heap.size, 1, none⟩ = some (.slice none 0 0) := cell_of_row _ _ _ _ _ _ HX3.out.2.1
                have f0 : w3.frozen? ⟨w.heap.size, 0, none⟩ = false := frozen_of_row _ _ _ _ _ HX3.out.2.1
                have f1 : w3.frozen? ⟨w.heap.size, 1, none⟩ = false := frozen_of_row _ _ _ _ _ HX3.out.2.1
                go_wp2_with fail
                exact bodyPost_ret (v := .agg #[.slice (some ⟨gT, 0, none⟩) ts.length c1, .slice A2 os.length c2]) (by simp [results, Try.results37, go_sem, e0, e1, f0, f1]) rfl (HX3.out.ret hgw (HDB.out.more (by omega)) (by omega))

end Go.Proofs.Ytgbkjfhmbchiiaa
