/-
  The walks of WorldNew, of the program and of the reference, and of eqWorld, markWorld, heldWorld at runs without transactions. No condition.
-/
import Derived.Test.YthbipjipibhfoaaWorldA
namespace Go.Proofs.Ythbipjipibhfoaa
set_option linter.unusedVariables false
set_option linter.unusedSimpArgs false
open Go.RowKit

/-- a run without transactions whose shards have no records: its parts' addresses -/
structure W0 where
  T : Option Addr
  tc : Nat
  O : Option Addr
  oc : Nat
  S : Option Addr
  sc : Nat
  N : Option Addr
  nc : Nat
def W0.val (x : W0) : Value := .agg #[.slice x.T 0 x.tc, .slice x.O 0 x.oc, .slice x.S 3 x.sc, .slice x.N 0 x.nc]
/-- .. and its shards lie between lo and hi -/
def W0.at_ (x : W0) (w : World) (lo hi : Nat) : Prop := ∃ xs, Fl cs0 w lo hi x.S 3 xs

theorem Try.infoShard : (Try.prog.info? 36).map (fun i => (i.zero, i.size, i.bytes)) = some (some (.agg #[.slice none 0 0]), 1, 24) := by kernel_rfl
theorem make3 (W : World) : (Instr.makeSlice 26 (.int .i64 3) (.int .i64 3)).run Try.prog W = .ok (.slice (some ⟨W.heap.size, 0, none⟩) 3 3) (W.alloc (.cells #[.slice none 0 0, .slice none 0 0, .slice none 0 0] 36)) := by
  obtain ⟨i0, hi0, hz0, hz1, hz2⟩ := info_parts Try.infoShard
  have h := run_make_rowN (P := Try.prog) 26 36 i0 _ Try.underlying26 hi0 hz0 3 (by rw [hz2]; omega) (by unfold maxLen; omega) W
  rw [hz1] at h
  have e : madeCells (Value.agg #[.slice none 0 0]).cells (3 * 1) = #[.slice none 0 0, .slice none 0 0, .slice none 0 0] := by kernel_rfl
  rw [e] at h
  exact h
theorem Try.elShard : ElemT Try.prog 26 36 (.agg #[.slice none 0 0]) 1 24 := ⟨Try.underlying26, by kernel_rfl, rfl, by decide⟩
theorem rd_heap0 {W : World} {g : Nat} {e : TypeId} {cs : List Value} (h : W.heap[g]? = some (.cells cs.toArray e (0, 0))) : Rd W g (g + 1) (some ⟨g, 0, none⟩) cs := fun _ =>
  ⟨g, 0, rfl, Nat.le_refl _, Nat.lt_succ_self _, fun j u hu => by
    rw [Nat.zero_add, cell_of_row W g j _ _ _ h]
    simpa using hu⟩
theorem own_set_lt {w : World} {base n size : Nat} {e : TypeId} {v : Value} {cs : List Value} (h : w.ownsRow base e size v n cs) {p : Addr} (hp : p.block < base) (u : Value) : (w.setCell p u).ownsRow base e size v n cs :=
  h.kept (row := some p.block) ⟨rfl, rfl, rfl, by simp [World.setCell], fun i _ hne => Below.heap_setCell _ _ _ _ (fun e => hne (by rw [e]))⟩ (by
    rcases hv : v.ownBlock with _ | q
    · exact .inl rfl
    · refine .inr (fun e => ?_)
      injection e with e
      have := (h.lt q hv).1
      omega)
/-- what both WorldNew leave -/
def NewR (w w' : World) (e : Ending) : Prop := ∃ x : W0, x.at_ w' w.heap.size w'.heap.size ∧ Below w.heap.size w w' ∧ e = .returned x.val

set_option maxHeartbeats 800000 in
set_option maxRecDepth 100000 in
theorem implNew_any (w : World) :
    Calls Try.prog 5 #[] w fun e w' => NewR w w' e := by
  have hmk := make3
  go_enter Try.func5, Try.ntmps5
  go_wp2_with fail
  refine bodyPost_ret (v := .agg #[.slice none 0 0, .slice none 0 0, .slice (some ⟨w.heap.size + 1, 0, none⟩) 3 3, .slice none 0 0]) (by simp [results, Try.results5, go_sem]) rfl ⟨⟨none, 0, none, 0, some ⟨w.heap.size + 1, 0, none⟩, 3, none, 0⟩, ⟨[(none, 0), (none, 0), (none, 0)], rfl, ?_⟩, ?_, rfl⟩
  · have h1 := rd_new (w.alloc (.cells #[.slice none 0 0, .slice none 0 0, .slice (some ⟨w.heap.size + 1, 0, none⟩) 3 3, .slice none 0 0] 29)) [.slice none 0 0, .slice none 0 0, .slice none 0 0] 36
    simp only [World.size_alloc] at h1
    exact h1.more (by omega) (by simp)
  · exact ((Below.refl _ _).alloc (Nat.le_refl _) _).alloc (by simp) _

set_option maxHeartbeats 800000 in
set_option maxRecDepth 100000 in
theorem specNew_any (w : World) :
    Calls Try.prog 4 #[] w fun e w' => NewR w w' e := by
  go_enter Try.func4, Try.ntmps4
  go_wp2_with fail
  go_loopw [2] (fun i wr => ∃ (k : Nat) (vs : List (Option Addr × Nat)) (v : Value), k ≤ 3 ∧ i = .int .i64 k ∧ vs.length = k ∧ wr.ownsRow (w.heap.size + 5) 36 1 v k (vs.flatMap cs0) ∧
    wr.heap[w.heap.size + 1 + 1 + 1 + 1]? = some (.cells #[.slice (some ⟨w.heap.size + 1, 0, none⟩) 0 0, .slice (some ⟨w.heap.size + 1 + 1, 0, none⟩) 0 0, v, .slice (some ⟨w.heap.size + 1 + 1 + 1, 0, none⟩) 0 0] 29 (0, 0)) ∧
    wr.heap[w.heap.size]? = some (.cells #[.slice none 0 0, .slice none 0 0, .slice none 0 0, .slice none 0 0] 29 (0, 0)) ∧ Below w.heap.size w wr) (fun i _ => 3 - (intOf i).toNat)
  case atStart =>
    refine ⟨0, [], .slice none 0 0, by omega, rfl, rfl, ⟨by simp, .inl ⟨rfl, rfl⟩⟩, ?_, ?_, ?_⟩
    · simpa using heap_alloc_new ((((w.alloc (.cells #[.slice none 0 0, .slice none 0 0, .slice none 0 0, .slice none 0 0] 29)).alloc (.cells #[] 55)).alloc (.cells #[] 3)).alloc (.cells #[] 48)) (.cells #[.slice (some ⟨w.heap.size + 1, 0, none⟩) 0 0, .slice (some ⟨w.heap.size + 1 + 1, 0, none⟩) 0 0, .slice none 0 0, .slice (some ⟨w.heap.size + 1 + 1 + 1, 0, none⟩) 0 0] 29)
    · exact (Below.heap_alloc _ _ _ (by simp; omega)).trans ((Below.heap_alloc _ _ _ (by simp; omega)).trans ((Below.heap_alloc _ _ _ (by simp; omega)).trans ((Below.heap_alloc _ _ _ (by simp)).trans (heap_alloc_new w _))))
    · exact (((((Below.refl _ _).alloc (Nat.le_refl _) _).alloc (by simp) _).alloc (by simp; omega) _).alloc (by simp; omega) _).alloc (by simp; omega) _
  case round =>
    obtain ⟨k, vs, v, hk, rfl, hvl, hown, hh, hh0, hb⟩ := hrel
    obtain ⟨A, c, rfl, hc, hcm, -⟩ := Rd.of_own hown
    have HO := Lib.hid hown
    have HB := Lib.hid hb
    have HH := Lib.hid hh
    have HH0 := Lib.hid hh0
    have hwsz := hb.size
    have hc2 : wr.cell? ⟨w.heap.size + 1 + 1 + 1 + 1, 2, none⟩ = some (.slice A k c) := cell_of_row _ _ 2 _ _ _ hh
    have hf2 : wr.frozen? ⟨w.heap.size + 1 + 1 + 1 + 1, 2, none⟩ = false := frozen_of_row _ _ 2 _ _ hh
    have hlt : w.heap.size + 1 + 1 + 1 + 1 < wr.heap.size := by
      rcases Nat.lt_or_ge (w.heap.size + 1 + 1 + 1 + 1) wr.heap.size with h | h
      · exact h
      · rw [Array.getElem?_eq_none h] at hh; cases hh
    clear hown hb hh hh0
    by_cases hk3 : k < 3
    · have hrd := rd_new (wr.alloc (.cells #[] 60)) (cs0 (some ⟨wr.heap.size, 0, none⟩, 0)) 36
      simp only [World.size_alloc] at hrd
      have HRD := Lib.hid hrd
      clear hrd
      go_wp2_with (at_builtin; go_must (refine wpList_app Try.elShard (m := 1) ((HO.out.alloc _).alloc _) HRD.out rfl (by simp [Value.oneCell', cs0]) (by unfold maxLen; omega) (by omega) (by simp; omega) rfl rfl rfl rfl ?_); intro v4 w4 hown4 hg4; obtain ⟨A4, c4, rfl, hc4, hcm4, -⟩ := Rd.of_own hown4; have hh4 : w4.heap[w.heap.size + 1 + 1 + 1 + 1]? = _ := (hg4.block _ (by simp; omega) (fun e => by have := (HO.out.lt _ e.symm).1; omega)).trans ((Below.heap_alloc _ _ _ (by simp; omega)).trans ((Below.heap_alloc _ _ _ hlt).trans HH.out)); have hh04 : w4.heap[w.heap.size]? = _ := (hg4.block _ (by simp; omega) (fun e => by have := (HO.out.lt _ e.symm).1; omega)).trans ((Below.heap_alloc _ _ _ (by simp; omega)).trans ((Below.heap_alloc _ _ _ (by omega)).trans HH0.out)); have hc24 : w4.cell? ⟨w.heap.size + 1 + 1 + 1 + 1, 2, none⟩ = some (.slice A k c) := cell_of_row _ _ 2 _ _ _ hh4; have hf24 : w4.frozen? ⟨w.heap.size + 1 + 1 + 1 + 1, 2, none⟩ = false := frozen_of_row _ _ 2 _ _ hh4; have HH4 := Lib.hid hh4; have HH04 := Lib.hid hh04; have HO4 := Lib.hid hown4; have HB4 : Hid (Below w.heap.size w w4) := Lib.hid (below_app ((HB.out.alloc hwsz _).alloc (by simp; omega) _) (by omega) (by simp; omega) ((HO.out.alloc _).alloc _) hg4); clear hh4 hh04 hown4 hg4)
      go_roundw
      case rel =>
        refine ⟨k + 1, vs ++ [(some ⟨wr.heap.size, 0, none⟩, 0)], .slice A4 (k + 1) c4, by omega, by go_num, by simp [hvl], own_set_lt (by rw [List.flatMap_append]; simpa using HO4.out) (by simp) _, ?_, ?_, HB4.out.setCell (by simp; omega) _⟩
        · rw [heap_setCell_same _ _ 2 _ _ _ HH4.out]; rfl
        · exact (Below.heap_setCell _ _ _ _ (by simp; omega)).trans HH04.out
      case measure => simp [intOf]; omega
    · have hkn : k = 3 := by omega
      subst hkn
      have hc0 : wr.cell? ⟨w.heap.size + 1 + 1 + 1 + 1, 0, none⟩ = some _ := cell_of_row _ _ 0 _ _ _ HH.out
      have hc1 : wr.cell? ⟨w.heap.size + 1 + 1 + 1 + 1, 1, none⟩ = some _ := cell_of_row _ _ 1 _ _ _ HH.out
      have hc3 : wr.cell? ⟨w.heap.size + 1 + 1 + 1 + 1, 3, none⟩ = some _ := cell_of_row _ _ 3 _ _ _ HH.out
      have hd0 : wr.cell? ⟨w.heap.size, 0, none⟩ = some _ := cell_of_row _ _ 0 _ _ _ HH0.out
      have hd1 : wr.cell? ⟨w.heap.size, 1, none⟩ = some _ := cell_of_row _ _ 1 _ _ _ HH0.out
      have hd2 : wr.cell? ⟨w.heap.size, 2, none⟩ = some _ := cell_of_row _ _ 2 _ _ _ HH0.out
      have hd3 : wr.cell? ⟨w.heap.size, 3, none⟩ = some _ := cell_of_row _ _ 3 _ _ _ HH0.out
      have hf0 : wr.frozen? ⟨w.heap.size, 0, none⟩ = false := frozen_of_row _ _ 0 _ _ HH0.out
      have hf1 : wr.frozen? ⟨w.heap.size, 1, none⟩ = false := frozen_of_row _ _ 1 _ _ HH0.out
      have hf3 : wr.frozen? ⟨w.heap.size, 2, none⟩ = false := frozen_of_row _ _ 2 _ _ HH0.out
      have hf4 : wr.frozen? ⟨w.heap.size, 3, none⟩ = false := frozen_of_row _ _ 3 _ _ HH0.out
      go_wp2_with fail
      obtain ⟨A', c', e', -, -, hr⟩ := Rd.of_own HO.out
      injection e' with e1 e2 e3
      subst e1 e3
      refine bodyPost_ret (v := .agg #[.slice (some ⟨w.heap.size + 1, 0, none⟩) 0 0, .slice (some ⟨w.heap.size + 1 + 1, 0, none⟩) 0 0, .slice A 3 c, .slice (some ⟨w.heap.size + 1 + 1 + 1, 0, none⟩) 0 0]) (by simp [results, Try.results4, go_sem, hd0, hd1, hd2, hd3, World.block_lt_of_cell? _ _ hd0]) rfl ⟨⟨_, 0, _, 0, A, c, _, 0⟩, ⟨vs, hvl, ?_⟩, ?_, rfl⟩
      · have h0 : Rd wr w.heap.size wr.heap.size A (vs.flatMap cs0) := hr.more (by omega) (Nat.le_refl _)
        have hs1 := fun (W : World) (h : Rd W (w.heap.size + 5) wr.heap.size A (vs.flatMap cs0)) (j : Nat) (u : Value) => h.setCell (p := ⟨w.heap.size, j, none⟩) (.inl (by simp)) u
        exact ((hs1 _ (hs1 _ (hs1 _ (hs1 _ hr _ _) _ _) _ _) _ _)).more (by omega) (by simp)
      · exact (((HB.out.setCell (Nat.le_refl _) _).setCell (Nat.le_refl _) _).setCell (Nat.le_refl _) _).setCell (Nat.le_refl _) _

set_option maxHeartbeats 800000 in
set_option maxRecDepth 100000 in
theorem eqCoord_nil (T O T' O' : Option Addr) (tc oc tc' oc' : Nat) (w : World) :
    Calls Try.prog 9 #[.agg #[.slice T 0 tc, .slice O 0 oc], .agg #[.slice T' 0 tc', .slice O' 0 oc']] w fun e w' => e = .returned (.bool true) ∧ Below w.heap.size w w' := by
  go_enter Try.func9, Try.ntmps9
  go_wp2_with fail
  refine (eqTxnS_nil _ _ _ _ _).mono ?_
  rintro e w' ⟨rfl, rfl⟩
  go_wp2_with fail
  refine (eqIntS_nil _ _ _ _ _).mono ?_
  rintro e w' ⟨rfl, rfl⟩
  go_wp2_with fail
  go_ret
  exact ⟨rfl, ((Below.refl _ _).alloc (Nat.le_refl _) _).alloc (by simp) _⟩

set_option maxHeartbeats 800000 in
set_option maxRecDepth 100000 in
theorem eqWorld_any (x y : W0) (w : World) (lo hi lo' hi' : Nat) (hh : hi ≤ w.heap.size) (hh' : hi' ≤ w.heap.size) (h : x.at_ w lo hi) (h' : y.at_ w lo' hi') :
    Calls Try.prog 6 #[x.val, y.val] w fun e w' => e = .returned (.bool true) ∧ Below w.heap.size w w' := by
  obtain ⟨xs, h⟩ := h
  obtain ⟨ys, h'⟩ := h'
  have HI := Lib.hid h
  have HJ := Lib.hid h'
  clear h h'
  unfold W0.val
  go_enter Try.func6, Try.ntmps6
  go_wp2_with fail
  refine (eqCoord_nil _ _ _ _ _ _ _ _ _).mono ?_
  rintro e w2 ⟨rfl, hb2⟩
  have HB2 : Hid (Below w.heap.size w w2) := Lib.hid (bel_step (((Below.refl _ _).alloc (Nat.le_refl _) _).alloc (by simp) _) (Nat.le_refl _) hb2)
  obtain ⟨hcc, hcf⟩ := bcell hb2
  have hsz : w.heap.size + 1 < w2.heap.size := by have := hb2.size; simp at this; omega
  have hsz0 : w.heap.size < w2.heap.size := by omega
  clear hb2
  go_wp2_with fail
  refine (eqShardS_nil _ _ 3 _ _ xs ys _ lo hi lo' hi' (by omega) (by omega) (by omega) (HI.out.below HB2.out hh) (HJ.out.below HB2.out hh')).mono ?_
  rintro e w3 ⟨rfl, hb3⟩
  have HB3 : Hid (Below w.heap.size w w3) := Lib.hid (bel_step HB2.out (Nat.le_refl _) hb3)
  obtain ⟨hcc3, hcf3⟩ := bcell hb3
  have hsz3 : w.heap.size + 1 < w3.heap.size := by have := hb3.size; omega
  have hsz4 : w.heap.size < w3.heap.size := by omega
  clear hb3
  go_wp2_with fail
  refine (eqMessageS_nil _ _ _ _ _).mono ?_
  rintro e w4 ⟨rfl, rfl⟩
  go_wp2_with fail
  go_ret
  exact ⟨rfl, HB3.out⟩

set_option maxHeartbeats 800000 in
set_option maxRecDepth 100000 in
theorem markCoord_nil (T O : Option Addr) (tc oc : Nat) (k : Int) (w : World) :
    Calls Try.prog 12 #[.agg #[.slice T 0 tc, .slice O 0 oc], .int .i64 k] w fun e w' => e = .returned (.int .i64 k) ∧ Below w.heap.size w w' := by
  go_enter Try.func12, Try.ntmps12
  go_wp2_with fail
  refine (markTxnS_nil _ _ _ _).mono ?_
  rintro e w' ⟨rfl, rfl⟩
  go_wp2_with fail
  refine (markIntS_nil _ _ _ _).mono ?_
  rintro e w' ⟨rfl, rfl⟩
  go_wp2_with fail
  go_ret
  exact ⟨rfl, (Below.refl _ _).alloc (Nat.le_refl _) _⟩

set_option maxHeartbeats 800000 in
set_option maxRecDepth 100000 in
theorem heldCoord_nil (T O : Option Addr) (tc oc : Nat) (k : Int) (w : World) (hk : 0 ≤ k) :
    Calls Try.prog 15 #[.agg #[.slice T 0 tc, .slice O 0 oc], .int .i64 k] w fun e w' => e = .returned (.int .i64 k) ∧ Below w.heap.size w w' := by
  go_enter Try.func15, Try.ntmps15
  go_wp2_with fail
  refine (heldTxnS_nil _ _ _ _).mono ?_
  rintro e w' ⟨rfl, rfl⟩
  go_wp2_with fail
  refine (heldIntS_nil _ _ _ _).mono ?_
  rintro e w' ⟨rfl, rfl⟩
  go_wp2_with fail
  go_ret
  exact ⟨rfl, (Below.refl _ _).alloc (Nat.le_refl _) _⟩

set_option maxHeartbeats 800000 in
set_option maxRecDepth 100000 in
theorem markWorld_any (x : W0) (w : World) (lo hi : Nat) (hh : hi ≤ w.heap.size) (k : Int) (hk : 0 ≤ k) (h : x.at_ w lo hi) :
    Calls Try.prog 7 #[x.val, .int .i64 k] w fun e w' => e = .returned (.int .i64 k) ∧ Below w.heap.size w w' := by
  obtain ⟨xs, h⟩ := h
  have HI := Lib.hid h
  clear h
  unfold W0.val
  go_enter Try.func7, Try.ntmps7
  go_wp2_with fail
  refine (markCoord_nil _ _ _ _ _ _).mono ?_
  rintro e w2 ⟨rfl, hb2⟩
  have HB2 : Hid (Below w.heap.size w w2) := Lib.hid (bel_step ((Below.refl _ _).alloc (Nat.le_refl _) _) (Nat.le_refl _) hb2)
  obtain ⟨hcc, hcf⟩ := bcell hb2
  have hsz : w.heap.size < w2.heap.size := by have := hb2.size; simp at this; omega
  clear hb2
  go_wp2_with fail
  refine (markShardS_nil _ 3 _ xs _ lo hi (by omega) (HI.out.below HB2.out hh) _ hk).mono ?_
  rintro e w3 ⟨rfl, rfl⟩
  go_wp2_with fail
  refine (markMessageS_nil _ _ _ _).mono ?_
  rintro e w4 ⟨rfl, rfl⟩
  go_wp2_with fail
  go_ret
  exact ⟨rfl, HB2.out⟩

set_option maxHeartbeats 800000 in
set_option maxRecDepth 100000 in
theorem heldWorld_any (x : W0) (w : World) (lo hi : Nat) (hh : hi ≤ w.heap.size) (k : Int) (hk : 0 ≤ k) (h : x.at_ w lo hi) :
    Calls Try.prog 8 #[x.val, .int .i64 k] w fun e w' => e = .returned (.int .i64 k) ∧ Below w.heap.size w w' := by
  obtain ⟨xs, h⟩ := h
  have HI := Lib.hid h
  clear h
  unfold W0.val
  go_enter Try.func8, Try.ntmps8
  go_wp2_with fail
  refine (heldCoord_nil _ _ _ _ _ _ hk).mono ?_
  rintro e w2 ⟨rfl, hb2⟩
  have HB2 : Hid (Below w.heap.size w w2) := Lib.hid (bel_step ((Below.refl _ _).alloc (Nat.le_refl _) _) (Nat.le_refl _) hb2)
  obtain ⟨hcc, hcf⟩ := bcell hb2
  have hsz : w.heap.size < w2.heap.size := by have := hb2.size; simp at this; omega
  clear hb2
  go_wp2_with fail
  refine (heldShardS_nil _ 3 _ xs _ lo hi (by omega) (HI.out.below HB2.out hh) _ hk).mono ?_
  rintro e w3 ⟨rfl, rfl⟩
  go_wp2_with fail
  refine (heldMessageS_nil _ _ _ _).mono ?_
  rintro e w4 ⟨rfl, rfl⟩
  go_wp2_with fail
  go_ret
  exact ⟨rfl, HB2.out⟩

theorem W0.at_.bel {x : W0} {w w' : World} {lo hi : Nat} (h : x.at_ w lo hi) (hb : Below w.heap.size w w') (hh : hi ≤ w.heap.size) : x.at_ w' lo hi := by
  obtain ⟨xs, h⟩ := h
  exact ⟨xs, h.below hb hh⟩

end Go.Proofs.Ythbipjipibhfoaa
