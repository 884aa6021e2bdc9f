/-
  What the methods of the heap of ids lead to, through the interface. Plain law of the seat's program.
  The walks of the methods of the program's heap of ids, and of container/heap over it. Condition: lengths fit an int64.
  The heap's own Push. Condition: lengths fit an int64.
  container/heap.Push of a number that is larger than all. Condition: lengths fit an int64.
  The heap's own Swap. Condition: lengths fit an int64.
-/
import Derived.Test.YtnaeglfochnikaaGreatZ10
import Derived.Deep.RegionHeldLaw
namespace Go.Proofs.YtnaeglfochnikaaGreat
set_option linter.unusedVariables false
set_option linter.unusedSimpArgs false
open Go.RowKit

theorem meth_push (H : Nat) (w : World) : (method 275 72 (.pointer (some ⟨H, 0, none⟩)) "Push").run Tryz.prog w = .ok (147, .pointer (some ⟨H, 0, none⟩)) w := by kernel_rfl
theorem meth_pop (H : Nat) (w : World) : (method 275 72 (.pointer (some ⟨H, 0, none⟩)) "Pop").run Tryz.prog w = .ok (146, .pointer (some ⟨H, 0, none⟩)) w := by kernel_rfl
theorem wrap_ok (ts : Array TypeId) (t : TypeId) (a : Addr) (x y : String) : Builtin.ssaWrapNilChk_ ts t #[.pointer (some a), strVal x, strVal y] = pure (.pointer (some a)) := rfl
theorem meth_gen {P : Program} {t e : TypeId} {f : FuncId} {nm : String} {k : Nat} (hm : ((P.info? t).bind fun i => (i.methods.find? (·.name == nm)).map fun m => (m.path.toList.isEmpty, m.path.isEmpty, m.func)) = some (true, true, some (f, false)))
    (hu : P.underlying t = some (.pointer e)) (H : Nat) (v : Value) (w : World) (hl : (loadVar e ⟨H, 0, none⟩).run P w = .ok v w) : (method (k + 1) t (.pointer (some ⟨H, 0, none⟩)) nm).run P w = .ok (f, v) w := by
  rcases hi : P.info? t with _ | i
  · rw [hi] at hm; cases hm
  · rw [hi] at hm
    rcases hf : i.methods.find? (·.name == nm) with _ | m
    · simp [hf] at hm
    · simp only [Option.bind_some, hf, Option.map_some, Option.some.injEq, Prod.mk.injEq] at hm
      obtain ⟨h1, h2, h3⟩ := hm
      have h4 : m.path.toList = [] := List.isEmpty_iff.1 h1
      simp [method, typeInfo, hi, hf, h2, h3, h4, follow, receiverAt, run_underlying hu, Place.get, wrap_ok, asAddr]
      have h5 : m.path = #[] := by simpa using h2
      simp [h5, hl]
theorem meth_less (H : Nat) (v : Value) (w : World) (h : w.cell? ⟨H, 0, none⟩ = some v) : (method 275 72 (.pointer (some ⟨H, 0, none⟩)) "Less").run Tryz.prog w = .ok (145, v) w :=
  meth_gen (by kernel_rfl) Tryz.underlying72 H v w (by simp [go_sem, h])
theorem meth_len (H : Nat) (v : Value) (w : World) (h : w.cell? ⟨H, 0, none⟩ = some v) : (method 275 72 (.pointer (some ⟨H, 0, none⟩)) "Len").run Tryz.prog w = .ok (47, v) w :=
  meth_gen (by kernel_rfl) Tryz.underlying72 H v w (by simp [go_sem, h])
theorem meth_swap (H : Nat) (v : Value) (w : World) (h : w.cell? ⟨H, 0, none⟩ = some v) : (method 275 72 (.pointer (some ⟨H, 0, none⟩)) "Swap").run Tryz.prog w = .ok (148, v) w :=
  meth_gen (by kernel_rfl) Tryz.underlying72 H v w (by simp [go_sem, h])

end Go.Proofs.YtnaeglfochnikaaGreat

namespace Go.Proofs.YtnaeglfochnikaaGreat
set_option linter.unusedVariables false
set_option linter.unusedSimpArgs false
open Go.RowKit

theorem Tryz.elH : ElemT Tryz.prog 73 3 (.int .i64 0) 1 8 := ⟨Tryz.underlying73, by kernel_rfl, rfl, by decide⟩
theorem heapLen_any (A : Option Addr) (n c : Nat) (w : World) :
    Calls Tryz.prog 47 #[.slice A n c] w fun e w' => e = .returned (.int .i64 n) ∧ w = w' := by
  go_enter Tryz.func47, Tryz.ntmps47
  go_wp2_with fail
  go_ret
  exact ⟨rfl, rfl⟩
set_option maxHeartbeats 1600000 in
theorem heapLess_any (xs : List Int) (A : Option Addr) (n c : Nat) (i j : Nat) (w : World) (lo hi : Nat) (hi' : i < n) (hj' : j < n) (hn : n ≤ 9223372036854775807) (h : Ints w lo hi A n xs) :
    Calls Tryz.prog 145 #[.slice A n c, .int .i64 i, .int .i64 j] w fun e w' => e = .returned (.bool (decide (xs.getD i 0 < xs.getD j 0))) ∧ ∃ m, w' = w.drewN m := by
  obtain ⟨b, o, hl, rfl, _, hbh, hc⟩ := h.int hi'
  obtain ⟨b2, o2, hl2, e2, _, hbh2, hc2⟩ := h.int hj'
  injection e2 with e2
  injection e2 with e3 e4
  subst e3 e4
  have e5 : xs.getD i 0 = xs[i] := by simp [List.getD_eq_getElem?_getD, hl]
  have e6 : xs.getD j 0 = xs[j] := by simp [List.getD_eq_getElem?_getD, hl2]
  rw [e5, e6]
  generalize xs[i] = x at hc
  generalize xs[j] = y at hc2
  have h0i : (0 : Int) ≤ (i : Int) := by omega
  have h0j : (0 : Int) ≤ (j : Int) := by omega
  have hin : (i : Int) < (n : Int) := by omega
  have hjn : (j : Int) < (n : Int) := by omega
  clear h hl hl2 e5 e6
  go_enter Tryz.func145, Tryz.ntmps145
  go_wp2_with fail
  go_region
  all_goals
    go_wp2_with fail
    go_ret
    exact ⟨rfl, 1, rfl⟩

/-- block H holds a heap of ids: a row of its own -/
def HeapB (w : World) (base H : Nat) (v : Value) (xs : List Int) : Prop :=
  w.heap[H]? = some (.cells #[v] 73 (0, 0)) ∧ w.ownsRow base 3 1 v xs.length (xs.flatMap ci) ∧ ∀ g, v.ownBlock = some g → g ≠ H
set_option maxRecDepth 100000 in
set_option maxHeartbeats 1600000 in
/-- a number that is larger than what stands above it stays where it is -/
theorem heapUp_any (xs : List Int) (base H : Nat) (v : Value) (j : Nat) (w : World) (hj : j + 1 = xs.length) (hn : xs.length ≤ 1000) (hx : HeapN xs xs.length) (h : HeapB w base H v xs) :
    Calls Tryz.prog 77 #[.iface 72 (.pointer (some ⟨H, 0, none⟩)), .int .i64 j] w fun e w' => (∃ x, e = .returned x) ∧ ∃ m, w' = w.drewN m := by
  have HB := Lib.hid h
  obtain ⟨A, c, rfl, hc1, hc2, hrd⟩ := Rd.of_own h.2.1
  have hcell : w.cell? ⟨H, 0, none⟩ = some (.slice A xs.length c) := cell_of_row _ _ _ _ _ _ h.1
  obtain ⟨n, hn'⟩ : ∃ n, n = xs.length := ⟨_, rfl⟩
  have HIN : Hid (Ints w base w.heap.size A n xs) := Lib.hid ⟨hn'.symm, hrd⟩
  have HXN := Lib.hid hx
  rw [← hn'] at hj hn hcell
  have HNN := Lib.hid hn'
  clear h hn' hrd hc1 hc2 hx
  go_enter Tryz.func77, Tryz.ntmps77
  go_wp2_with fail
  go_loopw [1] (fun i wr => i = .int .i64 j ∧ wr = w) (fun _ _ => 0)
  case atStart => exact ⟨rfl, rfl⟩
  case round =>
    obtain ⟨rfl, rfl⟩ := hrel
    rcases j with _ | j
    · go_wp2_with fail
      go_end0
      exact ⟨⟨_, rfl⟩, 0, rfl⟩
    · obtain ⟨p, hp⟩ : ∃ p, p = j / 2 := ⟨_, rfl⟩
      obtain ⟨J, hJ⟩ : ∃ J, J = j + 1 := ⟨_, rfl⟩
      have hq : Int.tdiv ((J : Int) - 1) 2 = (p : Int) := by
        rw [hJ, hp, show ((j + 1 : Nat) : Int) - 1 = (j : Int) by omega]; exact (Int.ofNat_tdiv j 2).symm
      have hij : p < n := by omega
      have hjn : J < n := by omega
      have hne : ((p : Int) == (J : Int)) = false := by simp; omega
      have hle := HXN.out J (by omega) (by rw [← HNN.out]; exact hjn)
      rw [show (J - 1) / 2 = p by rw [hJ, hp]; simp] at hle
      have hlt : decide (xs.getD J 0 < xs.getD p 0) = false := by simp only [decide_eq_false_iff_not]; omega
      have HLT := Lib.hid hlt
      have hJ0 : 1 ≤ J := by omega
      rw [← hJ]
      have hmeth := meth_less H _ wr hcell
      clear hle hlt hp hJ hj
      go_wp2_with fail
      refine (heapLess_any xs A n c J p wr base wr.heap.size hjn hij (by omega) HIN.out).mono ?_
      rintro e w2 ⟨rfl, q, rfl⟩
      rw [HLT.out]
      go_wp2_with fail
      go_end0
      exact ⟨⟨_, rfl⟩, q, rfl⟩

end Go.Proofs.YtnaeglfochnikaaGreat

namespace Go.Proofs.YtnaeglfochnikaaGreat
set_option linter.unusedVariables false
set_option linter.unusedSimpArgs false
open Go.RowKit

/-- only the heap's block and its row have been written -/
def HKeep (w w' : World) (H : Nat) (v : Value) : Prop :=
  w'.os = w.os ∧ w'.tape = w.tape ∧ w'.output = w.output ∧ w.heap.size ≤ w'.heap.size ∧ ∀ k, k < w.heap.size → k ≠ H → v.ownBlock ≠ some k → w'.heap[k]? = w.heap[k]?
theorem pushEnd {xs : List Int} {base H : Nat} {v v4 : Value} {x : Int} {w w4 : World} {o : Obj} (h : HeapB w base H v xs) (ho : w4.ownsRow base 3 1 v4 (xs.length + 1) (xs.flatMap ci ++ [.int .i64 x])) (hg : (w.drew.alloc o).grownBy w4 v.ownBlock)
    (hat : v4.ownBlock = v.ownBlock ∨ v4.ownBlock = some (w.drew.alloc o).heap.size) (hc : w4.heap[H]? = w.heap[H]?) (hl : H < w.heap.size) :
    (∃ y, (Ending.returned (.tuple #[])) = .returned y) ∧ ∃ v', HeapB (w4.setCell ⟨H, 0, none⟩ v4) base H v' (xs ++ [x]) ∧ HKeep w (w4.setCell ⟨H, 0, none⟩ v4) H v ∧ (v'.ownBlock = v.ownBlock ∨ v'.ownBlock = some w.heap.size ∨ v'.ownBlock = some (w.heap.size + 1)) := by
  have hgs := Lib.grownBy_setCell w4 H 0 v4
  have hs : (w.drew.alloc o).heap.size = w.heap.size + 1 := by simp
  have hne : ∀ g, v4.ownBlock = some g → g ≠ H := fun g hg' e => by
    rcases hat with e1 | e1
    · rw [e1] at hg'; exact h.2.2 g hg' e
    · rw [e1, hs] at hg'; injection hg' with hg'; omega
  refine ⟨⟨_, rfl⟩, v4, ⟨?_, ?_, hne⟩, ⟨hgs.os.trans hg.os, hgs.tape.trans hg.tape, hgs.output.trans hg.output, ?_, fun k hk hkH hkv => ?_⟩, ?_⟩
  · rw [heap_setCell_same w4 H 0 _ _ _ (hc.trans h.1)]; rfl
  · rw [List.length_append, List.flatMap_append]
    exact ho.kept hgs (ownNe fun g hg' e => by injection e with e; exact hne g hg' e.symm)
  · have := hg.size; have := hgs.size; omega
  · rw [hgs.block k (by have := hg.size; omega) (fun e => by injection e with e; exact hkH e), hg.block k (by omega) (fun e => hkv e.symm)]
    exact Below.heap_alloc w.drew o k hk
  · rcases hat with e1 | e1
    · exact .inl e1
    · rw [hs] at e1; exact .inr (.inr e1)
set_option maxRecDepth 100000 in
set_option maxHeartbeats 1600000 in
/-- the heap's own Push -/
theorem heapPushM_any (xs : List Int) (base H : Nat) (v : Value) (x : Int) (w : World) (hn : xs.length ≤ 1000) (hb : base ≤ w.heap.size) (h : HeapB w base H v xs) :
    Calls Tryz.prog 147 #[.pointer (some ⟨H, 0, none⟩), .iface 3 (.int .i64 x)] w fun e w' => (∃ x, e = .returned x) ∧ ∃ v', HeapB w' base H v' (xs ++ [x]) ∧ HKeep w w' H v ∧ (v'.ownBlock = v.ownBlock ∨ v'.ownBlock = some w.heap.size ∨ v'.ownBlock = some (w.heap.size + 1)) := by
  have HB := Lib.hid h
  obtain ⟨A, c, rfl, hc1, hc2, hrd⟩ := Rd.of_own h.2.1
  have hcell : w.cell? ⟨H, 0, none⟩ = some (.slice A xs.length c) := cell_of_row _ _ _ _ _ _ h.1
  have HO := Lib.hid h.2.1
  have hfz : w.frozen? ⟨H, 0, none⟩ = false := frozen_of_row w H 0 _ _ h.1
  have hlt := hltS h.1
  clear h hc1 hc2 hrd
  go_enter Tryz.func147, Tryz.ntmps147
  go_wp2_with fail
  have HOd : Hid (w.drew.ownsRow base 3 1 (.slice A xs.length c) xs.length (xs.flatMap ci)) := HO
  have hbd : base ≤ w.drew.heap.size := hb
  have hta : ∀ W, (Instr.typeAssert (.iface 3 (.int .i64 x)) 20 3 false).run Tryz.prog W = .ok (.int .i64 x) W := fun W => by kernel_rfl
  refine wp_region_any (by kernel_rfl) ?_
  change wpAny _ _ _ _ _ _ _ (World.drew _)
  refine wpAny_take (i := 0) (v := .pointer (some ⟨H, 0, none⟩)) rfl (by kernel_rfl) (by kernel_rfl) (by kernel_rfl) (fun _ _ _ h => h) (Or.inl ⟨by rfl, fun W => by go_simp⟩) ?_
  go_simp
  refine wpAny_take (i := 1) (v := .pointer (some ⟨H, 0, none⟩)) rfl (by kernel_rfl) (by kernel_rfl) (by kernel_rfl) (fun _ _ _ h => h) (Or.inl ⟨by rfl, fun W => by go_simp⟩) ?_
  go_simp
  refine wpAny_take (i := 4) (v := .iface 3 (.int .i64 x)) rfl (by kernel_rfl) (by kernel_rfl) (by kernel_rfl) (fun _ _ _ h => h) (Or.inl ⟨by rfl, fun W => by go_simp⟩) ?_
  go_simp
  refine wpAny_take (i := 2) (v := .pointer (some ⟨H, 0, none⟩)) rfl (by kernel_rfl) (by kernel_rfl) (by kernel_rfl) (fun _ _ _ h => h) (Or.inl ⟨by rfl, fun W => by go_simp⟩) ?_
  go_simp
  refine wpAny_take (i := 5) (v := .int .i64 x) rfl (by kernel_rfl) (by kernel_rfl) (by kernel_rfl) (fun _ _ _ h => h) (Or.inl ⟨by rfl, fun W => by go_simp⟩) ?_
  go_simp
  refine wpAny_ready (rs := [3, 6]) (by kernel_rfl) (by simp) ?_
  refine AllReady.cons rfl (fun K hK => ?_) (AllReady.cons rfl (fun K hK => ?_) AllReady.nil)
  · go_simp
    refine hK _ _ ?_
    clear hK K
    refine wpAny_ready (rs := [6]) (by kernel_rfl) (by simp) ?_
    refine AllReady.cons rfl (fun K hK => ?_) AllReady.nil
    go_simp
    refine hK _ _ ?_
    clear hK K
    refine wpAny_ready (rs := [7]) (by kernel_rfl) (by simp) ?_
    refine AllReady.cons rfl (fun K hK => ?_) AllReady.nil
    refine step_app_at Tryz.elH (m := 1) (HOd.out.alloc _) (rd_newn (w := w.drew) (n := w.heap.size) rfl [.int .i64 x] 3) rfl (by simp [Value.oneCell']) (by unfold maxLen; omega) (by omega) (by simp; omega) rfl rfl rfl rfl ?_
    intro v4 w4 hown4 hg4 hat4
    have HO4 := Lib.hid hown4
    have HG4 := Lib.hid hg4
    have HA4 := Lib.hid hat4
    have hc4 : w4.heap[H]? = w.heap[H]? := (hg4.block H (by simp; omega) (fun e => HB.out.2.2 H e.symm rfl)).trans (Below.heap_alloc _ _ _ hlt)
    have HC4 := Lib.hid hc4
    have hfz4 : w4.frozen? ⟨H, 0, none⟩ = false := (World.frozen?_of_block (a := ⟨H, 0, none⟩) hc4).trans hfz
    have hcl4 : w4.cell? ⟨H, 0, none⟩ = some (.slice A xs.length c) := (World.cell?_of_block (a := ⟨H, 0, none⟩) hc4).trans hcell
    obtain ⟨A4, c4, rfl, -⟩ := Rd.of_own hown4
    clear hown4 hg4 hat4 hc4
    refine hK _ _ ?_
    clear hK K
    go_simp
    refine wpAny_take (i := 8) (v := .pointer (some ⟨H, 0, none⟩)) rfl (by kernel_rfl) (by kernel_rfl) (by kernel_rfl) (fun _ _ _ h => h) (Or.inl ⟨by rfl, fun W => by go_simp⟩) ?_
    go_simp
    refine wpAny_ready (rs := [9]) (by kernel_rfl) (by simp) ?_
    refine AllReady.cons rfl (fun K hK => ?_) AllReady.nil
    go_simp
    refine hK _ _ ?_
    clear hK K
    refine wpAny_done (by kernel_rfl) ?_ _
    go_wp2_with fail
    go_end0
    exact pushEnd HB.out HO4.out HG4.out HA4.out HC4.out hlt
  · go_simp
    refine hK _ _ ?_
    clear hK K
    refine wpAny_ready (rs := [3]) (by kernel_rfl) (by simp) ?_
    refine AllReady.cons rfl (fun K hK => ?_) AllReady.nil
    go_simp
    refine hK _ _ ?_
    clear hK K
    refine wpAny_ready (rs := [7]) (by kernel_rfl) (by simp) ?_
    refine AllReady.cons rfl (fun K hK => ?_) AllReady.nil
    refine step_app_at Tryz.elH (m := 1) (HOd.out.alloc _) (rd_newn (w := w.drew) (n := w.heap.size) rfl [.int .i64 x] 3) rfl (by simp [Value.oneCell']) (by unfold maxLen; omega) (by omega) (by simp; omega) rfl rfl rfl rfl ?_
    intro v4 w4 hown4 hg4 hat4
    have HO4 := Lib.hid hown4
    have HG4 := Lib.hid hg4
    have HA4 := Lib.hid hat4
    have hc4 : w4.heap[H]? = w.heap[H]? := (hg4.block H (by simp; omega) (fun e => HB.out.2.2 H e.symm rfl)).trans (Below.heap_alloc _ _ _ hlt)
    have HC4 := Lib.hid hc4
    have hfz4 : w4.frozen? ⟨H, 0, none⟩ = false := (World.frozen?_of_block (a := ⟨H, 0, none⟩) hc4).trans hfz
    have hcl4 : w4.cell? ⟨H, 0, none⟩ = some (.slice A xs.length c) := (World.cell?_of_block (a := ⟨H, 0, none⟩) hc4).trans hcell
    obtain ⟨A4, c4, rfl, -⟩ := Rd.of_own hown4
    clear hown4 hg4 hat4 hc4
    refine hK _ _ ?_
    clear hK K
    go_simp
    refine wpAny_take (i := 8) (v := .pointer (some ⟨H, 0, none⟩)) rfl (by kernel_rfl) (by kernel_rfl) (by kernel_rfl) (fun _ _ _ h => h) (Or.inl ⟨by rfl, fun W => by go_simp⟩) ?_
    go_simp
    refine wpAny_ready (rs := [9]) (by kernel_rfl) (by simp) ?_
    refine AllReady.cons rfl (fun K hK => ?_) AllReady.nil
    go_simp
    refine hK _ _ ?_
    clear hK K
    refine wpAny_done (by kernel_rfl) ?_ _
    go_wp2_with fail
    go_end0
    exact pushEnd HB.out HO4.out HG4.out HA4.out HC4.out hlt

end Go.Proofs.YtnaeglfochnikaaGreat

namespace Go.Proofs.YtnaeglfochnikaaGreat
set_option linter.unusedVariables false
set_option linter.unusedSimpArgs false
open Go.RowKit

theorem HKeep.drewN {w w' : World} {H : Nat} {v : Value} (h : HKeep w w' H v) (m : Nat) : HKeep w (w'.drewN m) H v := h
theorem HeapB.drewN {w : World} {base H : Nat} {v : Value} {xs : List Int} (h : HeapB w base H v xs) (m : Nat) : HeapB (w.drewN m) base H v xs := h
theorem HeapB.cell {w : World} {base H : Nat} {v : Value} {xs : List Int} (h : HeapB w base H v xs) : w.cell? ⟨H, 0, none⟩ = some v := cell_of_row _ _ _ _ _ _ h.1
theorem HeapB.shape {w : World} {base H : Nat} {v : Value} {xs : List Int} (h : HeapB w base H v xs) : ∃ A c, v = .slice A xs.length c := by
  obtain ⟨A, c, e, -⟩ := Rd.of_own h.2.1
  exact ⟨A, c, e⟩
set_option maxRecDepth 100000 in
set_option maxHeartbeats 1600000 in
theorem heapPush_any (xs : List Int) (base H : Nat) (v : Value) (x : Int) (w : World) (hn : xs.length ≤ 990) (hb : base ≤ w.heap.size) (hx : HeapN (xs ++ [x]) (xs ++ [x]).length) (h : HeapB w base H v xs) :
    Calls Tryz.prog 46 #[.iface 72 (.pointer (some ⟨H, 0, none⟩)), .iface 3 (.int .i64 x)] w fun e w' => (∃ y, e = .returned y) ∧ ∃ v', HeapB w' base H v' (xs ++ [x]) ∧ HKeep w w' H v ∧ (v'.ownBlock = v.ownBlock ∨ v'.ownBlock = some w.heap.size ∨ v'.ownBlock = some (w.heap.size + 1)) := by
  have HB := Lib.hid h
  have HX := Lib.hid hx
  have hmp := meth_push H w
  clear h hx
  go_enter Tryz.func46, Tryz.ntmps46
  go_wp2_with fail
  refine (heapPushM_any xs base H v x w (by omega) hb HB.out).mono ?_
  rintro e w2 ⟨⟨y2, rfl⟩, v2, hb2, hk2, hat⟩
  have HB2 := Lib.hid hb2
  have HK2 := Lib.hid hk2
  have HAT := Lib.hid hat
  obtain ⟨A, c, rfl⟩ := hb2.shape
  have hcell := hb2.cell
  have hml := meth_len H _ w2 hcell
  have hll : (xs ++ [x]).length = xs.length + 1 := by simp
  rw [hll] at hcell hml HB2 HAT
  clear hb2 hk2 hat hmp
  go_wp2_with fail
  refine (heapLen_any A (xs.length + 1) c w2).mono ?_
  rintro e w3 ⟨rfl, rfl⟩
  clear hml hcell
  go_wp2_with fail
  refine (heapUp_any (xs ++ [x]) base H _ xs.length w2 (by simp) (by simp; omega) HX.out HB2.out).mono ?_
  rintro e w3 ⟨⟨y3, rfl⟩, q, rfl⟩
  go_wp2_with fail
  go_end0
  exact ⟨⟨_, rfl⟩, _, HB2.out.drewN q, HK2.out.drewN q, HAT.out⟩

end Go.Proofs.YtnaeglfochnikaaGreat

namespace Go.Proofs.YtnaeglfochnikaaGreat
set_option linter.unusedVariables false
set_option linter.unusedSimpArgs false
open Go.RowKit

set_option maxRecDepth 100000 in
set_option maxHeartbeats 1600000 in
theorem heapSwap_any (xs : List Int) (base g n c : Nat) (i j : Nat) (w : World) (hi : i < n) (hj : j < n) (hn : n ≤ 1000) (h : w.ownsRow base 3 1 (.slice (some ⟨g, 0, none⟩) n c) n (xs.flatMap ci)) :
    Calls Tryz.prog 148 #[.slice (some ⟨g, 0, none⟩) n c, .int .i64 i, .int .i64 j] w fun e w' => (∃ y, e = .returned y) ∧ ∃ m, w' = ((w.setCell ⟨g, i, none⟩ (.int .i64 (xs.getD j 0))).setCell ⟨g, j, none⟩ (.int .i64 (xs.getD i 0))).drewN m := by
  have hl : xs.length = n := by
    have := h.1
    rw [flat_len ci 1 ci_len] at this
    omega
  have hcell : ∀ k, k < n → w.cell? ⟨g, k, none⟩ = some (.int .i64 (xs.getD k 0)) ∧ w.frozen? ⟨g, k, none⟩ = false := fun k hk => by
    have hq := QRow.of_own (e := 3) (w := w) (base := base) (v := .slice (some ⟨g, 0, none⟩) n c) (xs := xs) (by rw [hl]; exact h)
    rcases hq with ⟨h1, _⟩ | ⟨g', off, cap, h1, h2, h3, h4, h5, h6, h7⟩
    · cases h1
    · injection h1 with e1 e2 e3
      injection e1 with e1
      injection e1 with e1 e4
      subst e1 e4 e3
      have a1 := h6 k (by omega)
      have a2 := (h7 k (by omega)).2
      rw [Nat.zero_add] at a1 a2
      refine ⟨?_, a2⟩
      rw [a1]; simp [List.getD_eq_getElem?_getD, (show k < xs.length by omega)]
  obtain ⟨a1, a2⟩ := hcell i hi
  obtain ⟨b1, b2⟩ := hcell j hj
  generalize xs.getD i 0 = x at a1
  generalize xs.getD j 0 = y at b1
  have h0i : (0 : Int) ≤ (i : Int) := by omega
  have h0j : (0 : Int) ≤ (j : Int) := by omega
  have hin : (i : Int) < (n : Int) := by omega
  have hjn : (j : Int) < (n : Int) := by omega
  have hxy : i = j → x = y := fun e => by subst e; rw [a1] at b1; injection b1 with b1; injection b1
  have s1 : (w.setCell ⟨g, i, none⟩ (.int .i64 y)).cell? ⟨g, j, none⟩ = some (.int .i64 y) := by
    by_cases e : i = j
    · subst e; exact World.cell?_setCell_same' _ _ _ (by rw [a1]; rfl)
    · have hne : (⟨g, i, none⟩ : Addr) ≠ ⟨g, j, none⟩ := by
        intro h; injection h with _ h; exact e h
      have := World.cell?_setCell_other w _ _ (.int .i64 y) hne
      exact this.trans b1
  have s2 : (w.setCell ⟨g, i, none⟩ (.int .i64 y)).frozen? ⟨g, j, none⟩ = false := by rw [World.frozen?_setCell]; exact b2
  clear h hl hcell hxy
  go_enter Tryz.func148, Tryz.ntmps148
  go_wp2_with fail
  go_region
  all_goals
    go_wp2_with fail
    go_end0
    exact ⟨⟨_, rfl⟩, 1, rfl⟩

/-- a heap in which two numbers have changed places -/
theorem HeapB.swap {w : World} {base H g n c i j : Nat} {xs : List Int} (h : HeapB w base H (.slice (some ⟨g, 0, none⟩) n c) xs) (hn : n = xs.length) (hi : i < n) (hj : j < n) (m : Nat) :
    HeapB (((w.setCell ⟨g, i, none⟩ (.int .i64 (xs.getD j 0))).setCell ⟨g, j, none⟩ (.int .i64 (xs.getD i 0))).drewN m) base H (.slice (some ⟨g, 0, none⟩) n c) (swp xs i j) ∧
    HKeep w (((w.setCell ⟨g, i, none⟩ (.int .i64 (xs.getD j 0))).setCell ⟨g, j, none⟩ (.int .i64 (xs.getD i 0))).drewN m) H (.slice (some ⟨g, 0, none⟩) n c) := by
  subst hn
  have hg1 := Lib.grownBy_setCell w g i (.int .i64 (xs.getD j 0))
  have hg2 := Lib.grownBy_setCell (w.setCell ⟨g, i, none⟩ (.int .i64 (xs.getD j 0))) g j (.int .i64 (xs.getD i 0))
  have hgH : g ≠ H := h.2.2 g rfl
  have hlH := hltS h.1
  refine ⟨⟨?_, ?_, h.2.2⟩, hg2.os.trans hg1.os, hg2.tape.trans hg1.tape, hg2.output.trans hg1.output, Nat.le_trans hg1.size hg2.size, fun k hk hkH hkv => ?_⟩
  · show (World.setCell _ _ _).heap[H]? = _
    rw [hg2.block H (Nat.lt_of_lt_of_le hlH hg1.size) (fun e => by injection e with e; exact hgH e.symm), hg1.block H hlH (fun e => by injection e with e; exact hgH e.symm)]
    exact h.1
  · have hci : ∀ ys : List Int, ys.flatMap ci = ys.map fun x => Value.int .i64 x := fun ys => by
      induction ys with
      | nil => rfl
      | cons y ys ih => rw [List.flatMap_cons, ih]; rfl
    have h1 := ((h.2.1.stored i (.int .i64 (xs.getD j 0))).1.stored j (.int .i64 (xs.getD i 0))).1
    have e : ((xs.flatMap ci).set i (.int .i64 (xs.getD j 0))).set j (.int .i64 (xs.getD i 0)) = (swp xs i j).flatMap ci := by
      rw [hci, hci]
      unfold swp
      rw [List.map_set, List.map_set]
    rw [e] at h1
    rw [swp_len]
    exact h1
  · have hkg : k ≠ g := fun e => hkv (by rw [e]; rfl)
    show (World.setCell _ _ _).heap[k]? = _
    rw [hg2.block k (Nat.lt_of_lt_of_le hk hg1.size) (fun e => by injection e with e; exact hkg e), hg1.block k hk (fun e => by injection e with e; exact hkg e)]

end Go.Proofs.YtnaeglfochnikaaGreat
