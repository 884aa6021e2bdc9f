/-
  The walks of commits.follow and aborts.follow of the program. Condition: the history reads as the records before.
-/
import Derived.Test.YtgnhanbdfohjaaaImplF
namespace Go.Proofs.Ytgnhanbdfohjaaa
set_option linter.unusedVariables false
set_option linter.unusedSimpArgs false
open Go.RowKit
attribute [local go_sem ↓] Go.wp_at_zero Go.wp_at_succ

set_option linter.unusedVariables false in
set_option maxRecDepth 100000 in
set_option maxHeartbeats 1600000 in
theorem commit_none (base hb n : Nat) (done : List RecC) (s : St) (t : Int) (w : World) (hsl : s.refs.length = 4) (hll : s.locks.length = 4) (h : HistC w base hb n done s) (ht : txB t = true) (hq : lastC done t = none) :
    Calls Try.prog 101 #[.agg #[], .pointer (some ⟨hb, 0, none⟩), .int .i64 t] w fun e w' => StepNo base w e w' := by
  obtain ⟨lb, mb, hT, hL, hM, hb1, hb2, hb3, hn1, hn2, hn3⟩ := h
  have hhb := hT.lt
  have hlb := hL.lt
  have hmb := hM.lt
  have hsz : base ≤ w.heap.size := by omega
  obtain ⟨-, g4, g5, gf⟩ := hist_cells (hT.alloc (.cells #[] 105)) hsl
  have hlk := histAsk (hM.alloc (.cells #[] 105)) ht
  rw [hq] at hlk
  have hlk' : (Instr.lookup 61 (.map (some mb)) (.int .i64 t) true).run Try.prog (w.alloc (.cells #[] 105)) = .ok (.tuple #[.agg #[.int .i64 0, .int .i64 0, .slice none 0 0], .bool false]) (w.alloc (.cells #[] 105)) := hlk
  clear hlk hT hL hM
  go_enter Try.func101, Try.ntmps101
  go_wp2_with fail
  go_ret
  exact ⟨((Below.refl _ _).alloc hsz _).alloc (by simp; omega) _, rfl⟩

set_option linter.unusedVariables false in
set_option maxRecDepth 100000 in
set_option maxHeartbeats 1600000 in
theorem commit_other (base hb n : Nat) (done : List RecC) (s : St) (t : Int) (w : World) (hsl : s.refs.length = 4) (hll : s.locks.length = 4) (h : HistC w base hb n done s) (ht : txB t = true) (q : RecC) (hq : lastC done t = some q) (hk : (q.kind != 1) = true) :
    Calls Try.prog 101 #[.agg #[], .pointer (some ⟨hb, 0, none⟩), .int .i64 t] w fun e w' => StepNo base w e w' := by
  obtain ⟨lb, mb, hT, hL, hM, hb1, hb2, hb3, hn1, hn2, hn3⟩ := h
  have hhb := hT.lt
  have hlb := hL.lt
  have hmb := hM.lt
  have hsz : base ≤ w.heap.size := by omega
  obtain ⟨-, g4, g5, gf⟩ := hist_cells (hT.alloc (.cells #[] 105)) hsl
  have hlk := histAsk (hM.alloc (.cells #[] 105)) ht
  rw [hq] at hlk
  have hlk' : (Instr.lookup 61 (.map (some mb)) (.int .i64 t) true).run Try.prog (w.alloc (.cells #[] 105)) = .ok (.tuple #[.agg #[.int .i64 q.kind, .int .i64 q.txn, .slice q.A q.n q.c], .bool true]) (w.alloc (.cells #[] 105)) := hlk
  clear hlk hT hL hM
  go_enter Try.func101, Try.ntmps101
  go_wp2_with fail
  go_ret
  exact ⟨((Below.refl _ _).alloc hsz _).alloc (by simp; omega) _, rfl⟩

set_option linter.unusedVariables false in
set_option maxRecDepth 100000 in
set_option maxHeartbeats 1600000 in
theorem abort_other (base hb n : Nat) (done : List RecC) (s : St) (t : Int) (w : World) (hsl : s.refs.length = 4) (hll : s.locks.length = 4) (h : HistC w base hb n done s) (ht : txB t = true) (q : RecC) (hq : lastC done t = some q) (hk : (q.kind != 1) = true) :
    Calls Try.prog 103 #[.agg #[], .pointer (some ⟨hb, 0, none⟩), .int .i64 t] w fun e w' => StepNo base w e w' := by
  obtain ⟨lb, mb, hT, hL, hM, hb1, hb2, hb3, hn1, hn2, hn3⟩ := h
  have hhb := hT.lt
  have hlb := hL.lt
  have hmb := hM.lt
  have hsz : base ≤ w.heap.size := by omega
  obtain ⟨-, g4, g5, gf⟩ := hist_cells (hT.alloc (.cells #[] 106)) hsl
  have hlk := histAsk (hM.alloc (.cells #[] 106)) ht
  rw [hq] at hlk
  have hlk' : (Instr.lookup 61 (.map (some mb)) (.int .i64 t) true).run Try.prog (w.alloc (.cells #[] 106)) = .ok (.tuple #[.agg #[.int .i64 q.kind, .int .i64 q.txn, .slice q.A q.n q.c], .bool true]) (w.alloc (.cells #[] 106)) := hlk
  clear hlk hT hL hM
  go_enter Try.func103, Try.ntmps103
  go_wp2_with fail
  go_ret
  exact ⟨((Below.refl _ _).alloc hsz _).alloc (by simp; omega) _, rfl⟩

set_option linter.unusedVariables false in
set_option maxRecDepth 100000 in
set_option maxHeartbeats 1600000 in
theorem abort_none (base hb n : Nat) (done : List RecC) (s : St) (t : Int) (w : World) (hsl : s.refs.length = 4) (hll : s.locks.length = 4) (h : HistC w base hb n done s) (ht : txB t = true) (hq : lastC done t = none) :
    Calls Try.prog 103 #[.agg #[], .pointer (some ⟨hb, 0, none⟩), .int .i64 t] w fun e w' => StepYes base hb n done ⟨s.refs, freeL s.locks t⟩ w e w' := by
  obtain ⟨lb, mb, hT, hL, hM, hb1, hb2, hb3, hn1, hn2, hn3⟩ := h
  have hhb := hT.lt
  have hlb := hL.lt
  have hmb := hM.lt
  have hsz : base ≤ w.heap.size := by omega
  obtain ⟨-, g4, g5, gf⟩ := hist_cells (hT.alloc (.cells #[] 106)) hsl
  have hlk := histAsk (hM.alloc (.cells #[] 106)) ht
  rw [hq] at hlk
  have hlk' : (Instr.lookup 61 (.map (some mb)) (.int .i64 t) true).run Try.prog (w.alloc (.cells #[] 106)) = .ok (.tuple #[.agg #[.int .i64 0, .int .i64 0, .slice none 0 0], .bool false]) (w.alloc (.cells #[] 106)) := hlk
  have HT := Lib.hid ((hT.alloc (.cells #[] 106)).alloc (.cells #[.int .i64 0, .int .i64 0, .slice none 0 0] 48))
  have HL := Lib.hid ((hL.alloc (.cells #[] 106)).alloc (.cells #[.int .i64 0, .int .i64 0, .slice none 0 0] 48))
  have HM := Lib.hid ((hM.alloc (.cells #[] 106)).alloc (.cells #[.int .i64 0, .int .i64 0, .slice none 0 0] 48))
  have HLL := Lib.hid hll
  have HB0 := Lib.hid (((Below.refl base w).alloc hsz (.cells #[] 106)).alloc (by simp; omega) (.cells #[.int .i64 0, .int .i64 0, .slice none 0 0] 48))
  clear hlk hT hL hM hll
  go_enter Try.func103, Try.ntmps103
  go_wp2_with fail
  refine (release_any lb 4 3 s.locks t _ HLL.out HL.out).mono ?_
  rintro e w4 ⟨hl4, hg4, b, rfl⟩
  have HK4 : Hid (KeepR w w4) := (KeepR.alloc2 w _ _).tr (.row hg4 HL.out (.inr (.inl rfl)))
  have HL4 := Lib.hid hl4
  have HT4 : Hid (TabX w4 hb 63 s.refs [.slice (some ⟨lb, 0, none⟩) 4 4, .map (some mb)]) := HT.out.grown hg4 (by simp; omega)
  have HM4 : Hid (MapI Try.prog 3 w4 mb n (fun t => (lastC done t).map rv)) := HM.out.kept hg4 (by simp; omega)
  have HB4 : Hid (Below base w w4) := HB0.out.grown hg4 (by simp; omega) (fun q hq => by injection hq with hq; omega)
  clear hl4 hg4
  go_wp2_with fail
  go_ret
  exact ⟨⟨lb, mb, HT4.out, HL4.out, HM4.out, hb1, hb2, hb3, hn1, hn2, hn3⟩, HB4.out, HK4.out, rfl⟩

set_option linter.unusedVariables false in
set_option maxRecDepth 100000 in
set_option maxHeartbeats 1600000 in
theorem abort_prep (base hb n : Nat) (done : List RecC) (s : St) (t : Int) (w : World) (hsl : s.refs.length = 4) (hll : s.locks.length = 4) (h : HistC w base hb n done s) (ht : txB t = true) (q : RecC) (hq : lastC done t = some q) (hk : (q.kind != 1) = false) :
    Calls Try.prog 103 #[.agg #[], .pointer (some ⟨hb, 0, none⟩), .int .i64 t] w fun e w' => StepYes base hb n done ⟨s.refs, freeL s.locks t⟩ w e w' := by
  obtain ⟨lb, mb, hT, hL, hM, hb1, hb2, hb3, hn1, hn2, hn3⟩ := h
  have hhb := hT.lt
  have hlb := hL.lt
  have hmb := hM.lt
  have hsz : base ≤ w.heap.size := by omega
  obtain ⟨-, g4, g5, gf⟩ := hist_cells (hT.alloc (.cells #[] 106)) hsl
  have hlk := histAsk (hM.alloc (.cells #[] 106)) ht
  rw [hq] at hlk
  have hlk' : (Instr.lookup 61 (.map (some mb)) (.int .i64 t) true).run Try.prog (w.alloc (.cells #[] 106)) = .ok (.tuple #[.agg #[.int .i64 q.kind, .int .i64 q.txn, .slice q.A q.n q.c], .bool true]) (w.alloc (.cells #[] 106)) := hlk
  have HT := Lib.hid ((hT.alloc (.cells #[] 106)).alloc (.cells #[.int .i64 q.kind, .int .i64 q.txn, .slice q.A q.n q.c] 48))
  have HL := Lib.hid ((hL.alloc (.cells #[] 106)).alloc (.cells #[.int .i64 q.kind, .int .i64 q.txn, .slice q.A q.n q.c] 48))
  have HM := Lib.hid ((hM.alloc (.cells #[] 106)).alloc (.cells #[.int .i64 q.kind, .int .i64 q.txn, .slice q.A q.n q.c] 48))
  have HLL := Lib.hid hll
  have HB0 := Lib.hid (((Below.refl base w).alloc hsz (.cells #[] 106)).alloc (by simp; omega) (.cells #[.int .i64 q.kind, .int .i64 q.txn, .slice q.A q.n q.c] 48))
  clear hlk hT hL hM hll
  go_enter Try.func103, Try.ntmps103
  go_wp2_with fail
  refine (release_any lb 4 3 s.locks t _ HLL.out HL.out).mono ?_
  rintro e w4 ⟨hl4, hg4, b, rfl⟩
  have HK4 : Hid (KeepR w w4) := (KeepR.alloc2 w _ _).tr (.row hg4 HL.out (.inr (.inl rfl)))
  have HL4 := Lib.hid hl4
  have HT4 : Hid (TabX w4 hb 63 s.refs [.slice (some ⟨lb, 0, none⟩) 4 4, .map (some mb)]) := HT.out.grown hg4 (by simp; omega)
  have HM4 : Hid (MapI Try.prog 3 w4 mb n (fun t => (lastC done t).map rv)) := HM.out.kept hg4 (by simp; omega)
  have HB4 : Hid (Below base w w4) := HB0.out.grown hg4 (by simp; omega) (fun q hq => by injection hq with hq; omega)
  clear hl4 hg4
  go_wp2_with fail
  go_ret
  exact ⟨⟨lb, mb, HT4.out, HL4.out, HM4.out, hb1, hb2, hb3, hn1, hn2, hn3⟩, HB4.out, HK4.out, rfl⟩

set_option linter.unusedVariables false in
set_option maxRecDepth 100000 in
set_option maxHeartbeats 1600000 in
theorem commit_yes (base hb n : Nat) (done : List RecC) (s : St) (t : Int) (w : World) (hsl : s.refs.length = 4) (hll : s.locks.length = 4) (h : HistC w base hb n done s) (ht : txB t = true) (q : RecC) (hq : lastC done t = some q) (hk : (q.kind != 1) = false) (lo hi : Nat) (hhi : hi ≤ base) (hqn : q.n ≤ 9223372036854775807) (hqu : Fl cu w lo hi q.A q.n q.us) (hran : ∀ u ∈ q.us, 0 ≤ u.ref ∧ u.ref ≤ 3) :
    Calls Try.prog 101 #[.agg #[], .pointer (some ⟨hb, 0, none⟩), .int .i64 t] w fun e w' => StepYes base hb n done ⟨setR s.refs q.us, freeL s.locks t⟩ w e w' := by
  obtain ⟨lb, mb, hT, hL, hM, hb1, hb2, hb3, hn1, hn2, hn3⟩ := h
  have hhb := hT.lt
  have hlb := hL.lt
  have hmb := hM.lt
  have hsz : base ≤ w.heap.size := by omega
  obtain ⟨-, g4, g5, gf⟩ := hist_cells (hT.alloc (.cells #[] 105)) hsl
  have hlk := histAsk (hM.alloc (.cells #[] 105)) ht
  rw [hq] at hlk
  have hlk' : (Instr.lookup 61 (.map (some mb)) (.int .i64 t) true).run Try.prog (w.alloc (.cells #[] 105)) = .ok (.tuple #[.agg #[.int .i64 q.kind, .int .i64 q.txn, .slice q.A q.n q.c], .bool true]) (w.alloc (.cells #[] 105)) := hlk
  have HSL := Lib.hid hsl
  have HRAN := Lib.hid hran
  have HQU := Lib.hid ((hqu.alloc (by omega) (.cells #[] 105)).alloc (by simp; omega) (.cells #[.int .i64 q.kind, .int .i64 q.txn, .slice q.A q.n q.c] 48))
  have hpc := cell_of_row _ _ 2 _ _ _ (heap_alloc_new (w.alloc (.cells #[] 105)) (.cells #[.int .i64 q.kind, .int .i64 q.txn, .slice q.A q.n q.c] 48))
  have hp2 : ((w.alloc (.cells #[] 105)).alloc (.cells #[.int .i64 q.kind, .int .i64 q.txn, .slice q.A q.n q.c] 48)).cell? ⟨w.heap.size + 1, 2, none⟩ = some (.slice q.A q.n q.c) := by simp
  clear hqu hran hpc
  have HT := Lib.hid ((hT.alloc (.cells #[] 105)).alloc (.cells #[.int .i64 q.kind, .int .i64 q.txn, .slice q.A q.n q.c] 48))
  have HL := Lib.hid ((hL.alloc (.cells #[] 105)).alloc (.cells #[.int .i64 q.kind, .int .i64 q.txn, .slice q.A q.n q.c] 48))
  have HM := Lib.hid ((hM.alloc (.cells #[] 105)).alloc (.cells #[.int .i64 q.kind, .int .i64 q.txn, .slice q.A q.n q.c] 48))
  have HLL := Lib.hid hll
  have HB0 := Lib.hid (((Below.refl base w).alloc hsz (.cells #[] 105)).alloc (by simp; omega) (.cells #[.int .i64 q.kind, .int .i64 q.txn, .slice q.A q.n q.c] 48))
  clear hlk hT hL hM hll hsl
  go_enter Try.func101, Try.ntmps101
  go_wp2_with fail
  have HTD : Hid (TabX ((w.alloc (.cells #[] 105)).alloc (.cells #[.int .i64 q.kind, .int .i64 q.txn, .slice q.A q.n q.c] 48)).drew hb 63 s.refs [.slice (some ⟨lb, 0, none⟩) 4 4, .map (some mb)]) := HT.out.drew
  have HQD : Hid (Fl cu ((w.alloc (.cells #[] 105)).alloc (.cells #[.int .i64 q.kind, .int .i64 q.txn, .slice q.A q.n q.c] 48)).drew lo hi q.A q.n q.us) := HQU.out.drewN 1
  go_region_held3 (fun w' => w'.cell? ⟨w.heap.size + 1, 2, none⟩ = some (.slice q.A q.n q.c)) (go_keep)
    ((go_at_call 68; (with_reducible refine (setX_any hb 63 [.slice (some ⟨lb, 0, none⟩) 4 4, .map (some mb)] q.A q.n q.c q.us s.refs _ lo hi (Nat.le_trans hhi hb1) hqn HSL.out HRAN.out HTD.out HQD.out).mono ?_); rintro e w3 ⟨rfl, ht3, hg3⟩; have p3 : w3.cell? ⟨w.heap.size + 1, 2, none⟩ = some (.slice q.A q.n q.c) := (World.cell?_of_block (hg3.block (w.heap.size + 1) (by simp) (fun e => by injection e with e; omega))).trans hp2; have HT3 := Lib.hid ht3; have HK3 : Hid (KeepR w w3) := (KeepR.alloc2 w _ _).tr (.row (w := World.drew _) hg3 HTD.out (.inl rfl)); have HL3 : Hid (TabX w3 lb 3 s.locks []) := (HL.out.drew).grown hg3 (by simp; omega); have HM3 : Hid (MapI Try.prog 3 w3 mb n (fun t => (lastC done t).map rv)) := (HM.out.drewN 1).kept hg3 (by simp; omega); have HB3 : Hid (Below base w w3) := (HB0.out.drew).grown hg3 (by simp; omega) (fun q hq => by injection hq with hq; omega); have hsz3 : base ≤ w3.heap.size := Nat.le_trans hsz HB3.out.size; obtain ⟨-, k4, k5, kf⟩ := hist_cells ht3 (by rw [setR_len]; exact HSL.out); clear ht3 hg3))
  go_wp2_with fail
  refine (release_any lb 4 3 s.locks t _ HLL.out HL3.out).mono ?_
  rintro e w4 ⟨hl4, hg4, b, rfl⟩
  have HK4 : Hid (KeepR w w4) := HK3.out.tr (.row hg4 HL3.out (.inr (.inl rfl)))
  have HL4 := Lib.hid hl4
  have HT4 : Hid (TabX w4 hb 63 (setR s.refs q.us) [.slice (some ⟨lb, 0, none⟩) 4 4, .map (some mb)]) := HT3.out.grown hg4 (by simp; omega)
  have HM4 : Hid (MapI Try.prog 3 w4 mb n (fun t => (lastC done t).map rv)) := HM3.out.kept hg4 (by simp; omega)
  have HB4 : Hid (Below base w w4) := HB3.out.grown hg4 hsz3 (fun q hq => by injection hq with hq; omega)
  clear hl4 hg4
  go_wp2_with fail
  go_ret
  exact ⟨⟨lb, mb, HT4.out, HL4.out, HM4.out, hb1, hb2, hb3, hn1, hn2, hn3⟩, HB4.out, HK4.out, rfl⟩

end Go.Proofs.Ytgnhanbdfohjaaa
