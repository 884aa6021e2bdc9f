/-
  The walk of history.add of the program: a record is added if it may follow. Condition: the history reads as the records before, which may follow on one another; no vote meets a locked ref.
-/
import Derived.Test.YtgnhanbdfohjaaaImplG
namespace Go.Proofs.Ytgnhanbdfohjaaa
set_option linter.unusedVariables false
set_option linter.unusedSimpArgs false
open Go.RowKit
attribute [local go_sem ↓] Go.wp_at_zero Go.wp_at_succ

theorem ta_vote (A : Option Addr) (n c : Nat) (w : World) : (Instr.typeAssert (.iface 104 (.agg #[.slice A n c])) 89 92 true).run Try.prog w = .ok (.tuple #[.agg #[], .bool false]) w := by kernel_rfl
theorem ta_commit (w : World) : (Instr.typeAssert (.iface 105 (.agg #[])) 89 92 true).run Try.prog w = .ok (.tuple #[.agg #[], .bool false]) w := by kernel_rfl
theorem ta_abort (w : World) : (Instr.typeAssert (.iface 106 (.agg #[])) 89 92 true).run Try.prog w = .ok (.tuple #[.agg #[], .bool false]) w := by kernel_rfl
theorem ta_no (w : World) : (Instr.typeAssert (.iface 92 (.agg #[])) 89 92 true).run Try.prog w = .ok (.tuple #[.agg #[], .bool true]) w := by kernel_rfl

theorem meth_vote (A : Option Addr) (n c : Nat) (w : World) : (method 264 104 (.agg #[.slice A n c]) "loop.example/atomicpush/impl.follow").run Try.prog w = .ok (99, .agg #[.slice A n c]) w := by kernel_rfl
theorem meth_commit (w : World) : (method 264 105 (.agg #[]) "loop.example/atomicpush/impl.follow").run Try.prog w = .ok (101, .agg #[]) w := by kernel_rfl
theorem meth_abort (w : World) : (method 264 106 (.agg #[]) "loop.example/atomicpush/impl.follow").run Try.prog w = .ok (103, .agg #[]) w := by kernel_rfl

theorem HistC.bel {w w' : World} {base hb n : Nat} {done : List RecC} {s : St} (h : HistC w base hb n done s) (hbl : Below w.heap.size w w') : HistC w' base hb n done s := by
  obtain ⟨lb, mb, hT, hL, hM, r⟩ := h
  exact ⟨lb, mb, hT.grown (grown_none hbl none) (by simp), hL.grown (grown_none hbl none) (by simp), hM.kept (grown_none hbl none) (by simp), r⟩
theorem HistC.alloc {w : World} {base hb n : Nat} {done : List RecC} {s : St} (h : HistC w base hb n done s) (o : Obj) : HistC (w.alloc o) base hb n done s := h.bel ((Below.refl _ _).alloc (Nat.le_refl _) o)
theorem HistC.lt {w : World} {base hb n : Nat} {done : List RecC} {s : St} (h : HistC w base hb n done s) : base ≤ hb ∧ hb < w.heap.size := by
  obtain ⟨lb, mb, hT, _, _, h1, _⟩ := h
  exact ⟨h1, hT.lt⟩
theorem map_snoc (done : List RecC) (r : RecC) : (fun j => if j = r.txn then some (rv r) else (lastC done j).map rv) = fun j => (lastC (done ++ [r]) j).map rv := by
  funext j
  rw [lastC_snoc]
  by_cases e : j = r.txn
  · rw [if_pos e, if_pos e.symm]; rfl
  · rw [if_neg e, if_neg (fun h => e h.symm)]

set_option linter.unusedVariables false in
set_option maxRecDepth 100000 in
set_option maxHeartbeats 1600000 in
theorem add_vote (base hb n : Nat) (done : List RecC) (s : St) (r : RecC) (w : World) (h : HistC w base hb n done s) (ht : txB r.txn = true) (hsl : s.refs.length = 4) (hll : s.locks.length = 4) (hk9 : r.n ≤ 9223372036854775807) (lo hi : Nat) (hhi : hi ≤ base) (hU : Fl cu w lo hi r.A r.n r.us) (h1 : (r.kind == 1) = true) (hq : lastC done r.txn = none) (hu : updsB r.us = true) (hf : fitsR s.refs r.us = true) (hfree : lockFit s.locks r.us = true) (hn : n < maxLen) :
    Calls Try.prog 43 #[.pointer (some ⟨hb, 0, none⟩), .agg #[.int .i64 r.kind, .int .i64 r.txn, .slice r.A r.n r.c]] w fun e w' => StepYes base hb (n + 1) (done ++ [r]) (⟨s.refs, lockSet s.locks r.txn r.us⟩ : St) w e w' := by
  have HSL := Lib.hid hsl
  have HLL := Lib.hid hll
  clear hsl hll
  have HUU := Lib.hid hU
  clear hU
  have HQ := Lib.hid hq
  clear hq
  have HU := Lib.hid hu
  have HF := Lib.hid hf
  have HFR := Lib.hid hfree
  clear hu hf hfree
  have hta := ta_vote r.A r.n r.c
  have hme := meth_vote r.A r.n r.c
  have hlt := h.lt
  have HH := Lib.hid h
  have HT := Lib.hid ht
  have hbx := heap_alloc_new w (.cells #[.int .i64 r.kind, .int .i64 r.txn, .slice r.A r.n r.c] 48)
  have HBX := Lib.hid hbx
  clear h ht hbx
  go_enter Try.func43, Try.ntmps43
  go_wp2_with fail
  refine (stepOf_vote r _ HT.out h1).mono ?_
  rintro e w2 ⟨rfl, hb2⟩
  have hbx2 := (hb2.block w.heap.size (by simp)).trans HBX.out
  have HBX2 := Lib.hid hbx2
  have hk : w2.cell? ⟨w.heap.size, 1, none⟩ = some (.int .i64 r.txn) := cell_of_row _ _ 1 _ _ _ hbx2
  have HH2 := Lib.hid ((HH.out.alloc (.cells #[.int .i64 r.kind, .int .i64 r.txn, .slice r.A r.n r.c] 48)).bel hb2)
  have HB2 : Hid (Below base w w2) := ((Below.refl base w).alloc (by omega) _).trans (hb2.mono (by simp; omega))
  have HK2 : Hid (KeepR w w2) := (KeepR.alloc w _).tr (.bel hb2)
  have HF2 : Hid (∀ lo hi A m us, hi ≤ base → Fl cu w lo hi A m us → Fl cu w2 lo hi A m us) := fun lo hi A m us h1 h2 => Fl.below (Fl.alloc h2 (by omega) _) hb2 (by simp; omega)
  have hsz2 : base ≤ w2.heap.size := by have := hb2.size; simp at this; omega
  clear hb2 hbx2
  go_wp2_with fail
  refine (votes_fit base hb n done s r.txn r.A r.n r.c r.us w2 lo hi HSL.out HLL.out HH2.out HT.out HQ.out hk9 hhi (HF2.out _ _ _ _ _ hhi HUU.out) HU.out HF.out HFR.out).mono ?_
  rintro e w3 ⟨hh3, hb3, hk3, rfl⟩
  have hbx3 := hk3 _ _ _ (by decide) (by decide) (by decide) HBX2.out
  obtain ⟨lb, mb, hT3, hL3, hM3, c1, c2, c3, c4, c5, c6⟩ := hh3
  have q0 : w3.cell? ⟨w.heap.size, 0, none⟩ = some (.int .i64 r.kind) := cell_of_row _ _ 0 _ _ _ hbx3
  have q1 : w3.cell? ⟨w.heap.size, 1, none⟩ = some (.int .i64 r.txn) := cell_of_row _ _ 1 _ _ _ hbx3
  have q2 : w3.cell? ⟨w.heap.size, 2, none⟩ = some (.slice r.A r.n r.c) := cell_of_row _ _ 2 _ _ _ hbx3
  obtain ⟨-, k4, k5, kf⟩ := hist_cells hT3 (by exact HSL.out)
  have HT3 := Lib.hid hT3
  have HL3 := Lib.hid hL3
  have HM3 := Lib.hid hM3
  have HB3 : Hid (Below base w w3) := HB2.out.trans hb3
  have HK3 : Hid (KeepR w w3) := HK2.out.tr hk3
  have hsz3 : base ≤ w3.heap.size := Nat.le_trans hsz2 hb3.size
  clear hb3 hk3 hbx3 hT3 hL3 hM3
  go_wp2_with fail
  go_still_tail 7, (by kernel_rfl)
  change wpList _ _ _ _ _ w3.drew
  refine wpList_setI w3.drew rfl _ _ _ 61 rfl 3 48 Try.underlying3 Try.underlying61 mb n (fun t => (lastC done t).map rv) rfl (HM3.out.drewN 1) hn r.txn (rv r) (wf_txn HT.out) rfl rfl ?_
  intro w4 hM4 hg4
  rw [map_snoc] at hM4
  have HM4 := Lib.hid hM4
  have HT4 : Hid (TabX w4 hb 63 (⟨s.refs, lockSet s.locks r.txn r.us⟩ : St).refs [.slice (some ⟨lb, 0, none⟩) 4 4, .map (some mb)]) := HT3.out.drew.grown hg4 (by simp; omega)
  have HL4 : Hid (TabX w4 lb 3 (⟨s.refs, lockSet s.locks r.txn r.us⟩ : St).locks []) := HL3.out.drew.grown hg4 (by simp; omega)
  have HB4 : Hid (Below base w w4) := HB3.out.drew.grown hg4 (by simp; omega) (fun q hq => by injection hq with hq; omega)
  have HK4 : Hid (KeepR w w4) := HK3.out.tr fun i cs T h1 h2 h3 h4 => (hg4.block i (heap_lt h4) (fun e => by injection e with e; subst e; obtain ⟨D, ⟨es, ck, hm, _⟩, _⟩ := HM3.out; rw [hm] at h4; cases h4)).trans h4
  clear hM4 hg4
  go_wp2_with fail
  go_ret
  exact ⟨⟨lb, mb, HT4.out, HL4.out, HM4.out, c1, c2, c3, c4, c5, c6⟩, HB4.out, HK4.out, rfl⟩

set_option linter.unusedVariables false in
set_option maxRecDepth 100000 in
set_option maxHeartbeats 1600000 in
theorem add_known (base hb n : Nat) (done : List RecC) (s : St) (r : RecC) (w : World) (h : HistC w base hb n done s) (ht : txB r.txn = true) (hsl : s.refs.length = 4) (hll : s.locks.length = 4) (h1 : (r.kind == 1) = true) (q : RecC) (hq : lastC done r.txn = some q) :
    Calls Try.prog 43 #[.pointer (some ⟨hb, 0, none⟩), .agg #[.int .i64 r.kind, .int .i64 r.txn, .slice r.A r.n r.c]] w fun e w' => StepNo base w e w' := by
  have HSL := Lib.hid hsl
  have HLL := Lib.hid hll
  clear hsl hll
  have HQ := Lib.hid hq
  clear hq
  have hta := ta_vote r.A r.n r.c
  have hme := meth_vote r.A r.n r.c
  have hlt := h.lt
  have HH := Lib.hid h
  have HT := Lib.hid ht
  have hbx := heap_alloc_new w (.cells #[.int .i64 r.kind, .int .i64 r.txn, .slice r.A r.n r.c] 48)
  have HBX := Lib.hid hbx
  clear h ht hbx
  go_enter Try.func43, Try.ntmps43
  go_wp2_with fail
  refine (stepOf_vote r _ HT.out h1).mono ?_
  rintro e w2 ⟨rfl, hb2⟩
  have hbx2 := (hb2.block w.heap.size (by simp)).trans HBX.out
  have HBX2 := Lib.hid hbx2
  have hk : w2.cell? ⟨w.heap.size, 1, none⟩ = some (.int .i64 r.txn) := cell_of_row _ _ 1 _ _ _ hbx2
  have HH2 := Lib.hid ((HH.out.alloc (.cells #[.int .i64 r.kind, .int .i64 r.txn, .slice r.A r.n r.c] 48)).bel hb2)
  have HB2 : Hid (Below base w w2) := ((Below.refl base w).alloc (by omega) _).trans (hb2.mono (by simp; omega))
  have HK2 : Hid (KeepR w w2) := (KeepR.alloc w _).tr (.bel hb2)
  have HF2 : Hid (∀ lo hi A m us, hi ≤ base → Fl cu w lo hi A m us → Fl cu w2 lo hi A m us) := fun lo hi A m us h1 h2 => Fl.below (Fl.alloc h2 (by omega) _) hb2 (by simp; omega)
  have hsz2 : base ≤ w2.heap.size := by have := hb2.size; simp at this; omega
  clear hb2 hbx2
  go_wp2_with fail
  refine (votes_known base hb n done s r.txn r.A r.n r.c w2 HSL.out HH2.out HT.out q HQ.out).mono ?_
  rintro e w3 ⟨hb3, rfl⟩
  have HB3 : Hid (Below base w w3) := HB2.out.trans hb3
  clear hb3
  go_wp2_with fail
  go_ret
  exact ⟨HB3.out, rfl⟩

set_option linter.unusedVariables false in
set_option maxRecDepth 100000 in
set_option maxHeartbeats 1600000 in
theorem add_bad (base hb n : Nat) (done : List RecC) (s : St) (r : RecC) (w : World) (h : HistC w base hb n done s) (ht : txB r.txn = true) (hsl : s.refs.length = 4) (hll : s.locks.length = 4) (hk9 : r.n ≤ 9223372036854775807) (lo hi : Nat) (hhi : hi ≤ base) (hU : Fl cu w lo hi r.A r.n r.us) (h1 : (r.kind == 1) = true) (hq : lastC done r.txn = none) (hu : updsB r.us = false) :
    Calls Try.prog 43 #[.pointer (some ⟨hb, 0, none⟩), .agg #[.int .i64 r.kind, .int .i64 r.txn, .slice r.A r.n r.c]] w fun e w' => StepNo base w e w' := by
  have HSL := Lib.hid hsl
  have HLL := Lib.hid hll
  clear hsl hll
  have HUU := Lib.hid hU
  clear hU
  have HQ := Lib.hid hq
  clear hq
  have HU := Lib.hid hu
  clear hu
  have hta := ta_vote r.A r.n r.c
  have hme := meth_vote r.A r.n r.c
  have hlt := h.lt
  have HH := Lib.hid h
  have HT := Lib.hid ht
  have hbx := heap_alloc_new w (.cells #[.int .i64 r.kind, .int .i64 r.txn, .slice r.A r.n r.c] 48)
  have HBX := Lib.hid hbx
  clear h ht hbx
  go_enter Try.func43, Try.ntmps43
  go_wp2_with fail
  refine (stepOf_vote r _ HT.out h1).mono ?_
  rintro e w2 ⟨rfl, hb2⟩
  have hbx2 := (hb2.block w.heap.size (by simp)).trans HBX.out
  have HBX2 := Lib.hid hbx2
  have hk : w2.cell? ⟨w.heap.size, 1, none⟩ = some (.int .i64 r.txn) := cell_of_row _ _ 1 _ _ _ hbx2
  have HH2 := Lib.hid ((HH.out.alloc (.cells #[.int .i64 r.kind, .int .i64 r.txn, .slice r.A r.n r.c] 48)).bel hb2)
  have HB2 : Hid (Below base w w2) := ((Below.refl base w).alloc (by omega) _).trans (hb2.mono (by simp; omega))
  have HK2 : Hid (KeepR w w2) := (KeepR.alloc w _).tr (.bel hb2)
  have HF2 : Hid (∀ lo hi A m us, hi ≤ base → Fl cu w lo hi A m us → Fl cu w2 lo hi A m us) := fun lo hi A m us h1 h2 => Fl.below (Fl.alloc h2 (by omega) _) hb2 (by simp; omega)
  have hsz2 : base ≤ w2.heap.size := by have := hb2.size; simp at this; omega
  clear hb2 hbx2
  go_wp2_with fail
  refine (votes_bad base hb n done s r.txn r.A r.n r.c r.us w2 lo hi HSL.out HH2.out HT.out HQ.out hk9 hhi (HF2.out _ _ _ _ _ hhi HUU.out) HU.out).mono ?_
  rintro e w3 ⟨hb3, rfl⟩
  have HB3 : Hid (Below base w w3) := HB2.out.trans hb3
  clear hb3
  go_wp2_with fail
  go_ret
  exact ⟨HB3.out, rfl⟩

set_option linter.unusedVariables false in
set_option maxRecDepth 100000 in
set_option maxHeartbeats 1600000 in
theorem add_nofit (base hb n : Nat) (done : List RecC) (s : St) (r : RecC) (w : World) (h : HistC w base hb n done s) (ht : txB r.txn = true) (hsl : s.refs.length = 4) (hll : s.locks.length = 4) (hk9 : r.n ≤ 9223372036854775807) (lo hi : Nat) (hhi : hi ≤ base) (hU : Fl cu w lo hi r.A r.n r.us) (h1 : (r.kind == 1) = true) (hq : lastC done r.txn = none) (hu : updsB r.us = true) (hf : fitsR s.refs r.us = false) :
    Calls Try.prog 43 #[.pointer (some ⟨hb, 0, none⟩), .agg #[.int .i64 r.kind, .int .i64 r.txn, .slice r.A r.n r.c]] w fun e w' => StepNo base w e w' := by
  have HSL := Lib.hid hsl
  have HLL := Lib.hid hll
  clear hsl hll
  have HUU := Lib.hid hU
  clear hU
  have HQ := Lib.hid hq
  clear hq
  have HU := Lib.hid hu
  have HF := Lib.hid hf
  clear hu hf
  have hta := ta_vote r.A r.n r.c
  have hme := meth_vote r.A r.n r.c
  have hlt := h.lt
  have HH := Lib.hid h
  have HT := Lib.hid ht
  have hbx := heap_alloc_new w (.cells #[.int .i64 r.kind, .int .i64 r.txn, .slice r.A r.n r.c] 48)
  have HBX := Lib.hid hbx
  clear h ht hbx
  go_enter Try.func43, Try.ntmps43
  go_wp2_with fail
  refine (stepOf_vote r _ HT.out h1).mono ?_
  rintro e w2 ⟨rfl, hb2⟩
  have hbx2 := (hb2.block w.heap.size (by simp)).trans HBX.out
  have HBX2 := Lib.hid hbx2
  have hk : w2.cell? ⟨w.heap.size, 1, none⟩ = some (.int .i64 r.txn) := cell_of_row _ _ 1 _ _ _ hbx2
  have HH2 := Lib.hid ((HH.out.alloc (.cells #[.int .i64 r.kind, .int .i64 r.txn, .slice r.A r.n r.c] 48)).bel hb2)
  have HB2 : Hid (Below base w w2) := ((Below.refl base w).alloc (by omega) _).trans (hb2.mono (by simp; omega))
  have HK2 : Hid (KeepR w w2) := (KeepR.alloc w _).tr (.bel hb2)
  have HF2 : Hid (∀ lo hi A m us, hi ≤ base → Fl cu w lo hi A m us → Fl cu w2 lo hi A m us) := fun lo hi A m us h1 h2 => Fl.below (Fl.alloc h2 (by omega) _) hb2 (by simp; omega)
  have hsz2 : base ≤ w2.heap.size := by have := hb2.size; simp at this; omega
  clear hb2 hbx2
  go_wp2_with fail
  refine (votes_nofit base hb n done s r.txn r.A r.n r.c r.us w2 lo hi HSL.out HLL.out HH2.out HT.out HQ.out hk9 hhi (HF2.out _ _ _ _ _ hhi HUU.out) HU.out HF.out).mono ?_
  rintro e w3 ⟨hb3, rfl⟩
  have HB3 : Hid (Below base w w3) := HB2.out.trans hb3
  clear hb3
  go_wp2_with fail
  go_ret
  exact ⟨HB3.out, rfl⟩

set_option linter.unusedVariables false in
set_option maxRecDepth 100000 in
set_option maxHeartbeats 1600000 in
theorem add_commit (base hb n : Nat) (done : List RecC) (s : St) (r : RecC) (w : World) (h : HistC w base hb n done s) (ht : txB r.txn = true) (hsl : s.refs.length = 4) (hll : s.locks.length = 4) (h1 : (r.kind == 1) = false) (h2 : (r.kind == 2) = true) (hn0 : ((r.n : Int) == 0) = true) (q : RecC) (hq : lastC done r.txn = some q) (hk : (q.kind != 1) = false) (lo hi : Nat) (hhi : hi ≤ base) (hqn : q.n ≤ 9223372036854775807) (hqu : Fl cu w lo hi q.A q.n q.us) (hran : ∀ u ∈ q.us, 0 ≤ u.ref ∧ u.ref ≤ 3) (hn : n < maxLen) :
    Calls Try.prog 43 #[.pointer (some ⟨hb, 0, none⟩), .agg #[.int .i64 r.kind, .int .i64 r.txn, .slice r.A r.n r.c]] w fun e w' => StepYes base hb (n + 1) (done ++ [r]) (⟨setR s.refs q.us, freeL s.locks r.txn⟩ : St) w e w' := by
  have HSL := Lib.hid hsl
  have HLL := Lib.hid hll
  clear hsl hll
  have HQ := Lib.hid hq
  clear hq
  have HKQ := Lib.hid hk
  have HQU := Lib.hid hqu
  have HRAN := Lib.hid hran
  clear hk hqu hran
  have hta := ta_commit
  have hme := meth_commit
  have hlt := h.lt
  have HH := Lib.hid h
  have HT := Lib.hid ht
  have hbx := heap_alloc_new w (.cells #[.int .i64 r.kind, .int .i64 r.txn, .slice r.A r.n r.c] 48)
  have HBX := Lib.hid hbx
  clear h ht hbx
  go_enter Try.func43, Try.ntmps43
  go_wp2_with fail
  refine (stepOf_commit r _ HT.out h1 h2 hn0).mono ?_
  rintro e w2 ⟨rfl, hb2⟩
  have hbx2 := (hb2.block w.heap.size (by simp)).trans HBX.out
  have HBX2 := Lib.hid hbx2
  have hk : w2.cell? ⟨w.heap.size, 1, none⟩ = some (.int .i64 r.txn) := cell_of_row _ _ 1 _ _ _ hbx2
  have HH2 := Lib.hid ((HH.out.alloc (.cells #[.int .i64 r.kind, .int .i64 r.txn, .slice r.A r.n r.c] 48)).bel hb2)
  have HB2 : Hid (Below base w w2) := ((Below.refl base w).alloc (by omega) _).trans (hb2.mono (by simp; omega))
  have HK2 : Hid (KeepR w w2) := (KeepR.alloc w _).tr (.bel hb2)
  have HF2 : Hid (∀ lo hi A m us, hi ≤ base → Fl cu w lo hi A m us → Fl cu w2 lo hi A m us) := fun lo hi A m us h1 h2 => Fl.below (Fl.alloc h2 (by omega) _) hb2 (by simp; omega)
  have hsz2 : base ≤ w2.heap.size := by have := hb2.size; simp at this; omega
  clear hb2 hbx2
  go_wp2_with fail
  refine (commit_yes base hb n done s r.txn w2 HSL.out HLL.out HH2.out HT.out q HQ.out HKQ.out lo hi hhi hqn (HF2.out _ _ _ _ _ hhi HQU.out) HRAN.out).mono ?_
  rintro e w3 ⟨hh3, hb3, hk3, rfl⟩
  have hbx3 := hk3 _ _ _ (by decide) (by decide) (by decide) HBX2.out
  obtain ⟨lb, mb, hT3, hL3, hM3, c1, c2, c3, c4, c5, c6⟩ := hh3
  have q0 : w3.cell? ⟨w.heap.size, 0, none⟩ = some (.int .i64 r.kind) := cell_of_row _ _ 0 _ _ _ hbx3
  have q1 : w3.cell? ⟨w.heap.size, 1, none⟩ = some (.int .i64 r.txn) := cell_of_row _ _ 1 _ _ _ hbx3
  have q2 : w3.cell? ⟨w.heap.size, 2, none⟩ = some (.slice r.A r.n r.c) := cell_of_row _ _ 2 _ _ _ hbx3
  obtain ⟨-, k4, k5, kf⟩ := hist_cells hT3 (by rw [setR_len]; exact HSL.out)
  have HT3 := Lib.hid hT3
  have HL3 := Lib.hid hL3
  have HM3 := Lib.hid hM3
  have HB3 : Hid (Below base w w3) := HB2.out.trans hb3
  have HK3 : Hid (KeepR w w3) := HK2.out.tr hk3
  have hsz3 : base ≤ w3.heap.size := Nat.le_trans hsz2 hb3.size
  clear hb3 hk3 hbx3 hT3 hL3 hM3
  go_wp2_with fail
  go_still_tail 7, (by kernel_rfl)
  change wpList _ _ _ _ _ w3.drew
  refine wpList_setI w3.drew rfl _ _ _ 61 rfl 3 48 Try.underlying3 Try.underlying61 mb n (fun t => (lastC done t).map rv) rfl (HM3.out.drewN 1) hn r.txn (rv r) (wf_txn HT.out) rfl rfl ?_
  intro w4 hM4 hg4
  rw [map_snoc] at hM4
  have HM4 := Lib.hid hM4
  have HT4 : Hid (TabX w4 hb 63 (⟨setR s.refs q.us, freeL s.locks r.txn⟩ : St).refs [.slice (some ⟨lb, 0, none⟩) 4 4, .map (some mb)]) := HT3.out.drew.grown hg4 (by simp; omega)
  have HL4 : Hid (TabX w4 lb 3 (⟨setR s.refs q.us, freeL s.locks r.txn⟩ : St).locks []) := HL3.out.drew.grown hg4 (by simp; omega)
  have HB4 : Hid (Below base w w4) := HB3.out.drew.grown hg4 (by simp; omega) (fun q hq => by injection hq with hq; omega)
  have HK4 : Hid (KeepR w w4) := HK3.out.tr fun i cs T h1 h2 h3 h4 => (hg4.block i (heap_lt h4) (fun e => by injection e with e; subst e; obtain ⟨D, ⟨es, ck, hm, _⟩, _⟩ := HM3.out; rw [hm] at h4; cases h4)).trans h4
  clear hM4 hg4
  go_wp2_with fail
  go_ret
  exact ⟨⟨lb, mb, HT4.out, HL4.out, HM4.out, c1, c2, c3, c4, c5, c6⟩, HB4.out, HK4.out, rfl⟩

set_option linter.unusedVariables false in
set_option maxRecDepth 100000 in
set_option maxHeartbeats 1600000 in
theorem add_commit_none (base hb n : Nat) (done : List RecC) (s : St) (r : RecC) (w : World) (h : HistC w base hb n done s) (ht : txB r.txn = true) (hsl : s.refs.length = 4) (hll : s.locks.length = 4) (h1 : (r.kind == 1) = false) (h2 : (r.kind == 2) = true) (hn0 : ((r.n : Int) == 0) = true) (hq : lastC done r.txn = none) :
    Calls Try.prog 43 #[.pointer (some ⟨hb, 0, none⟩), .agg #[.int .i64 r.kind, .int .i64 r.txn, .slice r.A r.n r.c]] w fun e w' => StepNo base w e w' := by
  have HSL := Lib.hid hsl
  have HLL := Lib.hid hll
  clear hsl hll
  have HQ := Lib.hid hq
  clear hq
  have hta := ta_commit
  have hme := meth_commit
  have hlt := h.lt
  have HH := Lib.hid h
  have HT := Lib.hid ht
  have hbx := heap_alloc_new w (.cells #[.int .i64 r.kind, .int .i64 r.txn, .slice r.A r.n r.c] 48)
  have HBX := Lib.hid hbx
  clear h ht hbx
  go_enter Try.func43, Try.ntmps43
  go_wp2_with fail
  refine (stepOf_commit r _ HT.out h1 h2 hn0).mono ?_
  rintro e w2 ⟨rfl, hb2⟩
  have hbx2 := (hb2.block w.heap.size (by simp)).trans HBX.out
  have HBX2 := Lib.hid hbx2
  have hk : w2.cell? ⟨w.heap.size, 1, none⟩ = some (.int .i64 r.txn) := cell_of_row _ _ 1 _ _ _ hbx2
  have HH2 := Lib.hid ((HH.out.alloc (.cells #[.int .i64 r.kind, .int .i64 r.txn, .slice r.A r.n r.c] 48)).bel hb2)
  have HB2 : Hid (Below base w w2) := ((Below.refl base w).alloc (by omega) _).trans (hb2.mono (by simp; omega))
  have HK2 : Hid (KeepR w w2) := (KeepR.alloc w _).tr (.bel hb2)
  have HF2 : Hid (∀ lo hi A m us, hi ≤ base → Fl cu w lo hi A m us → Fl cu w2 lo hi A m us) := fun lo hi A m us h1 h2 => Fl.below (Fl.alloc h2 (by omega) _) hb2 (by simp; omega)
  have hsz2 : base ≤ w2.heap.size := by have := hb2.size; simp at this; omega
  clear hb2 hbx2
  go_wp2_with fail
  refine (commit_none base hb n done s r.txn w2 HSL.out HLL.out HH2.out HT.out HQ.out).mono ?_
  rintro e w3 ⟨hb3, rfl⟩
  have HB3 : Hid (Below base w w3) := HB2.out.trans hb3
  clear hb3
  go_wp2_with fail
  go_ret
  exact ⟨HB3.out, rfl⟩

set_option linter.unusedVariables false in
set_option maxRecDepth 100000 in
set_option maxHeartbeats 1600000 in
theorem add_commit_other (base hb n : Nat) (done : List RecC) (s : St) (r : RecC) (w : World) (h : HistC w base hb n done s) (ht : txB r.txn = true) (hsl : s.refs.length = 4) (hll : s.locks.length = 4) (h1 : (r.kind == 1) = false) (h2 : (r.kind == 2) = true) (hn0 : ((r.n : Int) == 0) = true) (q : RecC) (hq : lastC done r.txn = some q) (hk : (q.kind != 1) = true) :
    Calls Try.prog 43 #[.pointer (some ⟨hb, 0, none⟩), .agg #[.int .i64 r.kind, .int .i64 r.txn, .slice r.A r.n r.c]] w fun e w' => StepNo base w e w' := by
  have HSL := Lib.hid hsl
  have HLL := Lib.hid hll
  clear hsl hll
  have HQ := Lib.hid hq
  clear hq
  have HKQ := Lib.hid hk
  clear hk
  have hta := ta_commit
  have hme := meth_commit
  have hlt := h.lt
  have HH := Lib.hid h
  have HT := Lib.hid ht
  have hbx := heap_alloc_new w (.cells #[.int .i64 r.kind, .int .i64 r.txn, .slice r.A r.n r.c] 48)
  have HBX := Lib.hid hbx
  clear h ht hbx
  go_enter Try.func43, Try.ntmps43
  go_wp2_with fail
  refine (stepOf_commit r _ HT.out h1 h2 hn0).mono ?_
  rintro e w2 ⟨rfl, hb2⟩
  have hbx2 := (hb2.block w.heap.size (by simp)).trans HBX.out
  have HBX2 := Lib.hid hbx2
  have hk : w2.cell? ⟨w.heap.size, 1, none⟩ = some (.int .i64 r.txn) := cell_of_row _ _ 1 _ _ _ hbx2
  have HH2 := Lib.hid ((HH.out.alloc (.cells #[.int .i64 r.kind, .int .i64 r.txn, .slice r.A r.n r.c] 48)).bel hb2)
  have HB2 : Hid (Below base w w2) := ((Below.refl base w).alloc (by omega) _).trans (hb2.mono (by simp; omega))
  have HK2 : Hid (KeepR w w2) := (KeepR.alloc w _).tr (.bel hb2)
  have HF2 : Hid (∀ lo hi A m us, hi ≤ base → Fl cu w lo hi A m us → Fl cu w2 lo hi A m us) := fun lo hi A m us h1 h2 => Fl.below (Fl.alloc h2 (by omega) _) hb2 (by simp; omega)
  have hsz2 : base ≤ w2.heap.size := by have := hb2.size; simp at this; omega
  clear hb2 hbx2
  go_wp2_with fail
  refine (commit_other base hb n done s r.txn w2 HSL.out HLL.out HH2.out HT.out q HQ.out HKQ.out).mono ?_
  rintro e w3 ⟨hb3, rfl⟩
  have HB3 : Hid (Below base w w3) := HB2.out.trans hb3
  clear hb3
  go_wp2_with fail
  go_ret
  exact ⟨HB3.out, rfl⟩

set_option linter.unusedVariables false in
set_option maxRecDepth 100000 in
set_option maxHeartbeats 1600000 in
theorem add_abort_other (base hb n : Nat) (done : List RecC) (s : St) (r : RecC) (w : World) (h : HistC w base hb n done s) (ht : txB r.txn = true) (hsl : s.refs.length = 4) (hll : s.locks.length = 4) (h1 : (r.kind == 1) = false) (h2 : (r.kind == 2) = false) (h3 : (r.kind == 3) = true) (hn0 : ((r.n : Int) == 0) = true) (q : RecC) (hq : lastC done r.txn = some q) (hk : (q.kind != 1) = true) :
    Calls Try.prog 43 #[.pointer (some ⟨hb, 0, none⟩), .agg #[.int .i64 r.kind, .int .i64 r.txn, .slice r.A r.n r.c]] w fun e w' => StepNo base w e w' := by
  have HSL := Lib.hid hsl
  have HLL := Lib.hid hll
  clear hsl hll
  have HQ := Lib.hid hq
  clear hq
  have HKQ := Lib.hid hk
  clear hk
  have hta := ta_abort
  have hme := meth_abort
  have hlt := h.lt
  have HH := Lib.hid h
  have HT := Lib.hid ht
  have hbx := heap_alloc_new w (.cells #[.int .i64 r.kind, .int .i64 r.txn, .slice r.A r.n r.c] 48)
  have HBX := Lib.hid hbx
  clear h ht hbx
  go_enter Try.func43, Try.ntmps43
  go_wp2_with fail
  refine (stepOf_abort r _ HT.out h1 h2 h3 hn0).mono ?_
  rintro e w2 ⟨rfl, hb2⟩
  have hbx2 := (hb2.block w.heap.size (by simp)).trans HBX.out
  have HBX2 := Lib.hid hbx2
  have hk : w2.cell? ⟨w.heap.size, 1, none⟩ = some (.int .i64 r.txn) := cell_of_row _ _ 1 _ _ _ hbx2
  have HH2 := Lib.hid ((HH.out.alloc (.cells #[.int .i64 r.kind, .int .i64 r.txn, .slice r.A r.n r.c] 48)).bel hb2)
  have HB2 : Hid (Below base w w2) := ((Below.refl base w).alloc (by omega) _).trans (hb2.mono (by simp; omega))
  have HK2 : Hid (KeepR w w2) := (KeepR.alloc w _).tr (.bel hb2)
  have HF2 : Hid (∀ lo hi A m us, hi ≤ base → Fl cu w lo hi A m us → Fl cu w2 lo hi A m us) := fun lo hi A m us h1 h2 => Fl.below (Fl.alloc h2 (by omega) _) hb2 (by simp; omega)
  have hsz2 : base ≤ w2.heap.size := by have := hb2.size; simp at this; omega
  clear hb2 hbx2
  go_wp2_with fail
  refine (abort_other base hb n done s r.txn w2 HSL.out HLL.out HH2.out HT.out q HQ.out HKQ.out).mono ?_
  rintro e w3 ⟨hb3, rfl⟩
  have HB3 : Hid (Below base w w3) := HB2.out.trans hb3
  clear hb3
  go_wp2_with fail
  go_ret
  exact ⟨HB3.out, rfl⟩

set_option linter.unusedVariables false in
set_option maxRecDepth 100000 in
set_option maxHeartbeats 1600000 in
theorem add_abort_none (base hb n : Nat) (done : List RecC) (s : St) (r : RecC) (w : World) (h : HistC w base hb n done s) (ht : txB r.txn = true) (hsl : s.refs.length = 4) (hll : s.locks.length = 4) (h1 : (r.kind == 1) = false) (h2 : (r.kind == 2) = false) (h3 : (r.kind == 3) = true) (hn0 : ((r.n : Int) == 0) = true) (hq : lastC done r.txn = none) (hn : n < maxLen) :
    Calls Try.prog 43 #[.pointer (some ⟨hb, 0, none⟩), .agg #[.int .i64 r.kind, .int .i64 r.txn, .slice r.A r.n r.c]] w fun e w' => StepYes base hb (n + 1) (done ++ [r]) (⟨s.refs, freeL s.locks r.txn⟩ : St) w e w' := by
  have HSL := Lib.hid hsl
  have HLL := Lib.hid hll
  clear hsl hll
  have HQ := Lib.hid hq
  clear hq
  have hta := ta_abort
  have hme := meth_abort
  have hlt := h.lt
  have HH := Lib.hid h
  have HT := Lib.hid ht
  have hbx := heap_alloc_new w (.cells #[.int .i64 r.kind, .int .i64 r.txn, .slice r.A r.n r.c] 48)
  have HBX := Lib.hid hbx
  clear h ht hbx
  go_enter Try.func43, Try.ntmps43
  go_wp2_with fail
  refine (stepOf_abort r _ HT.out h1 h2 h3 hn0).mono ?_
  rintro e w2 ⟨rfl, hb2⟩
  have hbx2 := (hb2.block w.heap.size (by simp)).trans HBX.out
  have HBX2 := Lib.hid hbx2
  have hk : w2.cell? ⟨w.heap.size, 1, none⟩ = some (.int .i64 r.txn) := cell_of_row _ _ 1 _ _ _ hbx2
  have HH2 := Lib.hid ((HH.out.alloc (.cells #[.int .i64 r.kind, .int .i64 r.txn, .slice r.A r.n r.c] 48)).bel hb2)
  have HB2 : Hid (Below base w w2) := ((Below.refl base w).alloc (by omega) _).trans (hb2.mono (by simp; omega))
  have HK2 : Hid (KeepR w w2) := (KeepR.alloc w _).tr (.bel hb2)
  have HF2 : Hid (∀ lo hi A m us, hi ≤ base → Fl cu w lo hi A m us → Fl cu w2 lo hi A m us) := fun lo hi A m us h1 h2 => Fl.below (Fl.alloc h2 (by omega) _) hb2 (by simp; omega)
  have hsz2 : base ≤ w2.heap.size := by have := hb2.size; simp at this; omega
  clear hb2 hbx2
  go_wp2_with fail
  refine (abort_none base hb n done s r.txn w2 HSL.out HLL.out HH2.out HT.out HQ.out).mono ?_
  rintro e w3 ⟨hh3, hb3, hk3, rfl⟩
  have hbx3 := hk3 _ _ _ (by decide) (by decide) (by decide) HBX2.out
  obtain ⟨lb, mb, hT3, hL3, hM3, c1, c2, c3, c4, c5, c6⟩ := hh3
  have q0 : w3.cell? ⟨w.heap.size, 0, none⟩ = some (.int .i64 r.kind) := cell_of_row _ _ 0 _ _ _ hbx3
  have q1 : w3.cell? ⟨w.heap.size, 1, none⟩ = some (.int .i64 r.txn) := cell_of_row _ _ 1 _ _ _ hbx3
  have q2 : w3.cell? ⟨w.heap.size, 2, none⟩ = some (.slice r.A r.n r.c) := cell_of_row _ _ 2 _ _ _ hbx3
  obtain ⟨-, k4, k5, kf⟩ := hist_cells hT3 (by exact HSL.out)
  have HT3 := Lib.hid hT3
  have HL3 := Lib.hid hL3
  have HM3 := Lib.hid hM3
  have HB3 : Hid (Below base w w3) := HB2.out.trans hb3
  have HK3 : Hid (KeepR w w3) := HK2.out.tr hk3
  have hsz3 : base ≤ w3.heap.size := Nat.le_trans hsz2 hb3.size
  clear hb3 hk3 hbx3 hT3 hL3 hM3
  go_wp2_with fail
  go_still_tail 7, (by kernel_rfl)
  change wpList _ _ _ _ _ w3.drew
  refine wpList_setI w3.drew rfl _ _ _ 61 rfl 3 48 Try.underlying3 Try.underlying61 mb n (fun t => (lastC done t).map rv) rfl (HM3.out.drewN 1) hn r.txn (rv r) (wf_txn HT.out) rfl rfl ?_
  intro w4 hM4 hg4
  rw [map_snoc] at hM4
  have HM4 := Lib.hid hM4
  have HT4 : Hid (TabX w4 hb 63 (⟨s.refs, freeL s.locks r.txn⟩ : St).refs [.slice (some ⟨lb, 0, none⟩) 4 4, .map (some mb)]) := HT3.out.drew.grown hg4 (by simp; omega)
  have HL4 : Hid (TabX w4 lb 3 (⟨s.refs, freeL s.locks r.txn⟩ : St).locks []) := HL3.out.drew.grown hg4 (by simp; omega)
  have HB4 : Hid (Below base w w4) := HB3.out.drew.grown hg4 (by simp; omega) (fun q hq => by injection hq with hq; omega)
  have HK4 : Hid (KeepR w w4) := HK3.out.tr fun i cs T h1 h2 h3 h4 => (hg4.block i (heap_lt h4) (fun e => by injection e with e; subst e; obtain ⟨D, ⟨es, ck, hm, _⟩, _⟩ := HM3.out; rw [hm] at h4; cases h4)).trans h4
  clear hM4 hg4
  go_wp2_with fail
  go_ret
  exact ⟨⟨lb, mb, HT4.out, HL4.out, HM4.out, c1, c2, c3, c4, c5, c6⟩, HB4.out, HK4.out, rfl⟩

set_option linter.unusedVariables false in
set_option maxRecDepth 100000 in
set_option maxHeartbeats 1600000 in
theorem add_abort_prep (base hb n : Nat) (done : List RecC) (s : St) (r : RecC) (w : World) (h : HistC w base hb n done s) (ht : txB r.txn = true) (hsl : s.refs.length = 4) (hll : s.locks.length = 4) (h1 : (r.kind == 1) = false) (h2 : (r.kind == 2) = false) (h3 : (r.kind == 3) = true) (hn0 : ((r.n : Int) == 0) = true) (q : RecC) (hq : lastC done r.txn = some q) (hk : (q.kind != 1) = false) (hn : n < maxLen) :
    Calls Try.prog 43 #[.pointer (some ⟨hb, 0, none⟩), .agg #[.int .i64 r.kind, .int .i64 r.txn, .slice r.A r.n r.c]] w fun e w' => StepYes base hb (n + 1) (done ++ [r]) (⟨s.refs, freeL s.locks r.txn⟩ : St) w e w' := by
  have HSL := Lib.hid hsl
  have HLL := Lib.hid hll
  clear hsl hll
  have HQ := Lib.hid hq
  clear hq
  have HKQ := Lib.hid hk
  clear hk
  have hta := ta_abort
  have hme := meth_abort
  have hlt := h.lt
  have HH := Lib.hid h
  have HT := Lib.hid ht
  have hbx := heap_alloc_new w (.cells #[.int .i64 r.kind, .int .i64 r.txn, .slice r.A r.n r.c] 48)
  have HBX := Lib.hid hbx
  clear h ht hbx
  go_enter Try.func43, Try.ntmps43
  go_wp2_with fail
  refine (stepOf_abort r _ HT.out h1 h2 h3 hn0).mono ?_
  rintro e w2 ⟨rfl, hb2⟩
  have hbx2 := (hb2.block w.heap.size (by simp)).trans HBX.out
  have HBX2 := Lib.hid hbx2
  have hk : w2.cell? ⟨w.heap.size, 1, none⟩ = some (.int .i64 r.txn) := cell_of_row _ _ 1 _ _ _ hbx2
  have HH2 := Lib.hid ((HH.out.alloc (.cells #[.int .i64 r.kind, .int .i64 r.txn, .slice r.A r.n r.c] 48)).bel hb2)
  have HB2 : Hid (Below base w w2) := ((Below.refl base w).alloc (by omega) _).trans (hb2.mono (by simp; omega))
  have HK2 : Hid (KeepR w w2) := (KeepR.alloc w _).tr (.bel hb2)
  have HF2 : Hid (∀ lo hi A m us, hi ≤ base → Fl cu w lo hi A m us → Fl cu w2 lo hi A m us) := fun lo hi A m us h1 h2 => Fl.below (Fl.alloc h2 (by omega) _) hb2 (by simp; omega)
  have hsz2 : base ≤ w2.heap.size := by have := hb2.size; simp at this; omega
  clear hb2 hbx2
  go_wp2_with fail
  refine (abort_prep base hb n done s r.txn w2 HSL.out HLL.out HH2.out HT.out q HQ.out HKQ.out).mono ?_
  rintro e w3 ⟨hh3, hb3, hk3, rfl⟩
  have hbx3 := hk3 _ _ _ (by decide) (by decide) (by decide) HBX2.out
  obtain ⟨lb, mb, hT3, hL3, hM3, c1, c2, c3, c4, c5, c6⟩ := hh3
  have q0 : w3.cell? ⟨w.heap.size, 0, none⟩ = some (.int .i64 r.kind) := cell_of_row _ _ 0 _ _ _ hbx3
  have q1 : w3.cell? ⟨w.heap.size, 1, none⟩ = some (.int .i64 r.txn) := cell_of_row _ _ 1 _ _ _ hbx3
  have q2 : w3.cell? ⟨w.heap.size, 2, none⟩ = some (.slice r.A r.n r.c) := cell_of_row _ _ 2 _ _ _ hbx3
  obtain ⟨-, k4, k5, kf⟩ := hist_cells hT3 (by exact HSL.out)
  have HT3 := Lib.hid hT3
  have HL3 := Lib.hid hL3
  have HM3 := Lib.hid hM3
  have HB3 : Hid (Below base w w3) := HB2.out.trans hb3
  have HK3 : Hid (KeepR w w3) := HK2.out.tr hk3
  have hsz3 : base ≤ w3.heap.size := Nat.le_trans hsz2 hb3.size
  clear hb3 hk3 hbx3 hT3 hL3 hM3
  go_wp2_with fail
  go_still_tail 7, (by kernel_rfl)
  change wpList _ _ _ _ _ w3.drew
  refine wpList_setI w3.drew rfl _ _ _ 61 rfl 3 48 Try.underlying3 Try.underlying61 mb n (fun t => (lastC done t).map rv) rfl (HM3.out.drewN 1) hn r.txn (rv r) (wf_txn HT.out) rfl rfl ?_
  intro w4 hM4 hg4
  rw [map_snoc] at hM4
  have HM4 := Lib.hid hM4
  have HT4 : Hid (TabX w4 hb 63 (⟨s.refs, freeL s.locks r.txn⟩ : St).refs [.slice (some ⟨lb, 0, none⟩) 4 4, .map (some mb)]) := HT3.out.drew.grown hg4 (by simp; omega)
  have HL4 : Hid (TabX w4 lb 3 (⟨s.refs, freeL s.locks r.txn⟩ : St).locks []) := HL3.out.drew.grown hg4 (by simp; omega)
  have HB4 : Hid (Below base w w4) := HB3.out.drew.grown hg4 (by simp; omega) (fun q hq => by injection hq with hq; omega)
  have HK4 : Hid (KeepR w w4) := HK3.out.tr fun i cs T h1 h2 h3 h4 => (hg4.block i (heap_lt h4) (fun e => by injection e with e; subst e; obtain ⟨D, ⟨es, ck, hm, _⟩, _⟩ := HM3.out; rw [hm] at h4; cases h4)).trans h4
  clear hM4 hg4
  go_wp2_with fail
  go_ret
  exact ⟨⟨lb, mb, HT4.out, HL4.out, HM4.out, c1, c2, c3, c4, c5, c6⟩, HB4.out, HK4.out, rfl⟩

set_option linter.unusedVariables false in
set_option maxRecDepth 100000 in
set_option maxHeartbeats 1600000 in
theorem add_tx (base hb n : Nat) (done : List RecC) (s : St) (r : RecC) (w : World) (h : HistC w base hb n done s) (ht : txB r.txn = false) :
    Calls Try.prog 43 #[.pointer (some ⟨hb, 0, none⟩), .agg #[.int .i64 r.kind, .int .i64 r.txn, .slice r.A r.n r.c]] w fun e w' => StepNo base w e w' := by
  have hta := ta_no
  have hlt := h.lt
  go_enter Try.func43, Try.ntmps43
  go_wp2_with fail
  refine (stepOf_tx r _ ht).mono ?_
  rintro e w2 ⟨rfl, hb2⟩
  have HB2 : Hid (Below base w w2) := ((Below.refl base w).alloc (by omega) _).trans (hb2.mono (by simp; omega))
  have hsz2 : base ≤ w2.heap.size := by have := hb2.size; simp at this; omega
  clear hb2
  go_wp2_with fail
  go_ret
  exact ⟨HB2.out.alloc hsz2 _, rfl⟩

set_option linter.unusedVariables false in
set_option maxRecDepth 100000 in
set_option maxHeartbeats 1600000 in
theorem add_fullc (base hb n : Nat) (done : List RecC) (s : St) (r : RecC) (w : World) (h : HistC w base hb n done s) (ht : txB r.txn = true) (h1 : (r.kind == 1) = false) (h2 : (r.kind == 2) = true) (h3 : (r.kind == 3) = false) (hn0 : ((r.n : Int) == 0) = false) :
    Calls Try.prog 43 #[.pointer (some ⟨hb, 0, none⟩), .agg #[.int .i64 r.kind, .int .i64 r.txn, .slice r.A r.n r.c]] w fun e w' => StepNo base w e w' := by
  have hta := ta_no
  have hlt := h.lt
  go_enter Try.func43, Try.ntmps43
  go_wp2_with fail
  refine (stepOf_fullc r _ ht h1 h2 h3 hn0).mono ?_
  rintro e w2 ⟨rfl, hb2⟩
  have HB2 : Hid (Below base w w2) := ((Below.refl base w).alloc (by omega) _).trans (hb2.mono (by simp; omega))
  have hsz2 : base ≤ w2.heap.size := by have := hb2.size; simp at this; omega
  clear hb2
  go_wp2_with fail
  go_ret
  exact ⟨HB2.out.alloc hsz2 _, rfl⟩

set_option linter.unusedVariables false in
set_option maxRecDepth 100000 in
set_option maxHeartbeats 1600000 in
theorem add_fulla (base hb n : Nat) (done : List RecC) (s : St) (r : RecC) (w : World) (h : HistC w base hb n done s) (ht : txB r.txn = true) (h1 : (r.kind == 1) = false) (h2 : (r.kind == 2) = false) (h3 : (r.kind == 3) = true) (hn0 : ((r.n : Int) == 0) = false) :
    Calls Try.prog 43 #[.pointer (some ⟨hb, 0, none⟩), .agg #[.int .i64 r.kind, .int .i64 r.txn, .slice r.A r.n r.c]] w fun e w' => StepNo base w e w' := by
  have hta := ta_no
  have hlt := h.lt
  go_enter Try.func43, Try.ntmps43
  go_wp2_with fail
  refine (stepOf_fulla r _ ht h1 h2 h3 hn0).mono ?_
  rintro e w2 ⟨rfl, hb2⟩
  have HB2 : Hid (Below base w w2) := ((Below.refl base w).alloc (by omega) _).trans (hb2.mono (by simp; omega))
  have hsz2 : base ≤ w2.heap.size := by have := hb2.size; simp at this; omega
  clear hb2
  go_wp2_with fail
  go_ret
  exact ⟨HB2.out.alloc hsz2 _, rfl⟩

set_option linter.unusedVariables false in
set_option maxRecDepth 100000 in
set_option maxHeartbeats 1600000 in
theorem add_odd (base hb n : Nat) (done : List RecC) (s : St) (r : RecC) (w : World) (h : HistC w base hb n done s) (ht : txB r.txn = true) (h1 : (r.kind == 1) = false) (h2 : (r.kind == 2) = false) (h3 : (r.kind == 3) = false) :
    Calls Try.prog 43 #[.pointer (some ⟨hb, 0, none⟩), .agg #[.int .i64 r.kind, .int .i64 r.txn, .slice r.A r.n r.c]] w fun e w' => StepNo base w e w' := by
  have hta := ta_no
  have hlt := h.lt
  go_enter Try.func43, Try.ntmps43
  go_wp2_with fail
  refine (stepOf_other r _ ht h1 h2 h3).mono ?_
  rintro e w2 ⟨rfl, hb2⟩
  have HB2 : Hid (Below base w w2) := ((Below.refl base w).alloc (by omega) _).trans (hb2.mono (by simp; omega))
  have hsz2 : base ≤ w2.heap.size := by have := hb2.size; simp at this; omega
  clear hb2
  go_wp2_with fail
  go_ret
  exact ⟨HB2.out.alloc hsz2 _, rfl⟩

end Go.Proofs.Ytgnhanbdfohjaaa
