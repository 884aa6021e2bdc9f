/-
  The walk of prepares.follow of the program at valid updates. Condition: the history reads as the records before; where the updates fit, their refs are free.
-/
import Derived.Test.YtgnhanbdfohjaaaImplE
namespace Go.Proofs.Ytgnhanbdfohjaaa
set_option linter.unusedVariables false
set_option linter.unusedSimpArgs false
open Go.RowKit
attribute [local go_sem ↓] Go.wp_at_zero Go.wp_at_succ

theorem xs4 (x0 x1 x2 x3 : Int) : [x0, x1, x2, x3].length = 4 := rfl

set_option linter.unusedVariables false in
set_option maxRecDepth 100000 in
set_option maxHeartbeats 3200000 in
theorem votes_nofit (base hb n : Nat) (done : List RecC) (s : St) (t : Int) (A : Option Addr) (k c : Nat) (us : List Upd) (w : World) (lo hi : Nat) (hsl : s.refs.length = 4) (hll : s.locks.length = 4) (h : HistC w base hb n done s) (ht : txB t = true) (hq : lastC done t = none)
    (hk : k ≤ 9223372036854775807) (hhi : hi ≤ base) (hU : Fl cu w lo hi A k us) (hu : updsB us = true) (hf : fitsR s.refs us = false) :
    Calls Try.prog 99 #[.agg #[.slice A k c], .pointer (some ⟨hb, 0, none⟩), .int .i64 t] w fun e w' => StepNo base w e w' := by
  obtain ⟨lb, mb, hT, hL, hM, hb1, hb2, hb3, hn1, hn2, hn3⟩ := h
  have hhb := hT.lt
  have hlb := hL.lt
  have hmb := hM.lt
  have hsz : base ≤ w.heap.size := by omega
  obtain ⟨⟨x0, x1, x2, x3, hxs, g0, g1, g2, g3⟩, g4, g5, gf⟩ := hist_cells (hT.alloc (.cells #[.slice A k c] 104)) hsl
  have hlk := histAsk (hM.alloc (.cells #[.slice A k c] 104)) ht
  rw [hq] at hlk
  have hlk' : (Instr.lookup 61 (.map (some mb)) (.int .i64 t) true).run Try.prog (w.alloc (.cells #[.slice A k c] 104)) = .ok (.tuple #[.agg #[.int .i64 0, .int .i64 0, .slice none 0 0], .bool false]) (w.alloc (.cells #[.slice A k c] 104)) := hlk
  have HU := Lib.hid ((hU.alloc (by omega) (.cells #[.slice A k c] 104)).alloc (by simp; omega) (.cells #[.int .i64 0, .int .i64 0, .slice none 0 0] 48))
  have HT := Lib.hid ((hT.alloc (.cells #[.slice A k c] 104)).alloc (.cells #[.int .i64 0, .int .i64 0, .slice none 0 0] 48))
  have HL := Lib.hid ((hL.alloc (.cells #[.slice A k c] 104)).alloc (.cells #[.int .i64 0, .int .i64 0, .slice none 0 0] 48))
  have HM := Lib.hid ((hM.alloc (.cells #[.slice A k c] 104)).alloc (.cells #[.int .i64 0, .int .i64 0, .slice none 0 0] 48))
  have HP : Hid (((w.alloc (.cells #[.slice A k c] 104)).alloc (.cells #[.int .i64 0, .int .i64 0, .slice none 0 0] 48)).heap[w.heap.size]? = some (.cells #[.slice A k c] 104 (0, 0))) := (Below.heap_alloc _ _ _ (by simp)).trans (heap_alloc_new w _)
  have hran := Lib.hid (fun u hm => ((uokB_iff u).1 ((updsB_asc hu).1.mem u hm).1).1 : ∀ u ∈ us, 0 ≤ u.ref ∧ u.ref ≤ 3)
  have HLL := Lib.hid hll
  have HXS := Lib.hid hxs
  clear hlk hT hL hM hU hll hxs hsl
  go_enter Try.func99, Try.ntmps99
  go_wp2_with fail
  refine (implUpds_any A k c us _ lo hi (by simp; omega) hk HU.out).mono ?_
  rintro e w2 ⟨rfl, hb2'⟩
  have HB : Hid (Below base w w2) := (((Below.refl _ _).alloc hsz _).alloc (by simp; omega) _).trans (hb2'.mono (by simp; omega))
  have hsz2 : w.heap.size + 1 < w2.heap.size := by have := hb2'.size; simp at this; omega
  have HU2 := Lib.hid (HU.out.below hb2' (by simp; omega))
  have HT2 := Lib.hid (HT.out.grown (grown_none hb2' none) (by simp))
  have HL2 := Lib.hid (HL.out.grown (grown_none hb2' none) (by simp))
  have HM2 := Lib.hid (HM.out.kept (grown_none hb2' none) (by simp))
  have hp2 : w2.cell? ⟨w.heap.size, 0, none⟩ = some (.slice A k c) := cell_zero ((hb2'.block _ (by simp; omega)).trans HP.out)
  obtain ⟨-, k4, k5, kf⟩ := hist_cells HT2.out (by rw [HXS.out]; rfl)
  have hc2 := HT2.out
  rw [HXS.out] at hc2
  have k0 : w2.cell? ⟨hb, 0, none⟩ = some (.int .i64 x0) := cell_of_row _ _ 0 _ _ _ hc2
  have k1 : w2.cell? ⟨hb, 1, none⟩ = some (.int .i64 x1) := cell_of_row _ _ 1 _ _ _ hc2
  have k2 : w2.cell? ⟨hb, 2, none⟩ = some (.int .i64 x2) := cell_of_row _ _ 2 _ _ _ hc2
  have k3 : w2.cell? ⟨hb, 3, none⟩ = some (.int .i64 x3) := cell_of_row _ _ 3 _ _ _ hc2
  clear hb2' hc2 g0 g1 g2 g3 g4 g5 gf HU HT HL HM HP hlk'
  rw [hu]
  have hhb2 : hb < w2.heap.size := by omega
  have hlb2 : lb < w2.heap.size := by omega
  have htab : Hid (Tab ((w2.alloc (.cells #[.int .i64 x0, .int .i64 x1, .int .i64 x2, .int .i64 x3] 60)).drew) w2.heap.size [x0, x1, x2, x3]) := heap_alloc_new w2 _
  have HUD : Hid (Fl cu ((w2.alloc (.cells #[.int .i64 x0, .int .i64 x1, .int .i64 x2, .int .i64 x3] 60)).drew) lo hi A k us) := HU2.out.alloc (by omega) _
  have hgap : hi ≤ w2.heap.size := by omega
  have q4 : (w2.alloc (.cells #[.int .i64 x0, .int .i64 x1, .int .i64 x2, .int .i64 x3] 60)).cell? ⟨hb, 4, none⟩ = some (.slice (some ⟨lb, 0, none⟩) 4 4) := (World.cell?_alloc_lt _ _ _ hhb2).trans k4
  have qp : (w2.alloc (.cells #[.int .i64 x0, .int .i64 x1, .int .i64 x2, .int .i64 x3] 60)).cell? ⟨w.heap.size, 0, none⟩ = some (.slice A k c) := (World.cell?_alloc_lt _ _ _ (show w.heap.size < w2.heap.size by omega)).trans hp2
  go_wp2_with fail
  rw [HXS.out] at hf
  refine wp_region_any (by kernel_rfl) ?_
  change wpAny _ _ _ _ _ _ _ (World.drew _)
  refine wpAny_take (i := 0) (v := .pointer (some ⟨w.heap.size, 0, none⟩)) rfl (by kernel_rfl) (by kernel_rfl) (by kernel_rfl) (fun _ _ _ h => h) (Or.inl ⟨by rfl, fun W => by go_simp⟩) ?_
  go_simp
  refine wpAny_ready (rs := [1]) (by kernel_rfl) (by simp) ?_
  refine AllReady.cons rfl (fun K hK => ?_) AllReady.nil
  go_simp
  refine hK _ _ ?_
  clear hK K
  refine wpAny_ready (rs := [2]) (by kernel_rfl) (by simp) ?_
  refine AllReady.cons rfl (fun K hK => ?_) AllReady.nil
  go_simp
  refine (apply_any w2.heap.size A k c us [x0, x1, x2, x3] _ lo hi hgap hk (xs4 x0 x1 x2 x3) hran.out htab.out HUD.out).mono ?_
  rintro e w4 ⟨-, hg4, rfl⟩
  have HB4 : Hid (Below base w w4) := ((HB.out.alloc (by omega) _).drew).grown hg4 (by simp; omega) (fun q hq => by injection hq with hq; omega)
  clear hg4
  rw [hf]
  refine hK _ _ ?_
  clear hK K
  refine wpAny_take (i := 3) (v := .bool false) rfl (by kernel_rfl) (by kernel_rfl) (by kernel_rfl) (fun _ _ _ h => h) (Or.inl ⟨by rfl, fun W => by go_simp⟩) ?_
  go_simp
  refine wpAny_take (i := 4) (v := undef) rfl (by kernel_rfl) (by kernel_rfl) (by kernel_rfl) (fun _ _ _ h => h) (Or.inr ⟨by rfl, rfl⟩) ?_
  go_simp
  refine wpAny_take (i := 5) (v := undef) rfl (by kernel_rfl) (by kernel_rfl) (by kernel_rfl) (fun _ _ _ h => h) (Or.inr ⟨by rfl, rfl⟩) ?_
  go_simp
  refine wpAny_take (i := 6) (v := undef) rfl (by kernel_rfl) (by kernel_rfl) (by kernel_rfl) (fun _ _ _ h => h) (Or.inr ⟨by rfl, rfl⟩) ?_
  go_simp
  refine wpAny_take (i := 7) (v := undef) rfl (by kernel_rfl) (by kernel_rfl) (by kernel_rfl) (fun _ _ _ h => h) (Or.inr ⟨by rfl, rfl⟩) ?_
  go_simp
  refine wpAny_take (i := 8) (v := undef) rfl (by kernel_rfl) (by kernel_rfl) (by kernel_rfl) (fun _ _ _ h => h) (Or.inr ⟨by rfl, rfl⟩) ?_
  go_simp
  refine wpAny_take (i := 9) (v := undef) rfl (by kernel_rfl) (by kernel_rfl) (by kernel_rfl) (fun _ _ _ h => h) (Or.inr ⟨by rfl, rfl⟩) ?_
  go_simp
  refine wpAny_take (i := 10) (v := undef) rfl (by kernel_rfl) (by kernel_rfl) (by kernel_rfl) (fun _ _ _ h => h) (Or.inr ⟨by rfl, rfl⟩) ?_
  go_simp
  refine wpAny_take (i := 11) (v := undef) rfl (by kernel_rfl) (by kernel_rfl) (by kernel_rfl) (fun _ _ _ h => h) (Or.inr ⟨by rfl, rfl⟩) ?_
  go_simp
  refine wpAny_take (i := 12) (v := undef) rfl (by kernel_rfl) (by kernel_rfl) (by kernel_rfl) (fun _ _ _ h => h) (Or.inr ⟨by rfl, rfl⟩) ?_
  go_simp
  refine wpAny_take (i := 13) (v := .bool false) rfl (by kernel_rfl) (by kernel_rfl) (by kernel_rfl) (fun _ _ _ h => h) (Or.inl ⟨by rfl, fun W => by go_simp⟩) ?_
  go_simp
  refine wpAny_take (i := 14) (v := .bool false) rfl (by kernel_rfl) (by kernel_rfl) (by kernel_rfl) (fun _ _ _ h => h) (Or.inl ⟨by rfl, fun W => by go_simp⟩) ?_
  go_simp
  refine wpAny_done (by kernel_rfl) ?_ _
  go_wp2_with fail
  go_ret
  exact ⟨HB4.out, rfl⟩

set_option linter.unusedVariables false in
set_option maxRecDepth 100000 in
set_option maxHeartbeats 3200000 in
theorem votes_fit (base hb n : Nat) (done : List RecC) (s : St) (t : Int) (A : Option Addr) (k c : Nat) (us : List Upd) (w : World) (lo hi : Nat) (hsl : s.refs.length = 4) (hll : s.locks.length = 4) (h : HistC w base hb n done s) (ht : txB t = true) (hq : lastC done t = none)
    (hk : k ≤ 9223372036854775807) (hhi : hi ≤ base) (hU : Fl cu w lo hi A k us) (hu : updsB us = true) (hf : fitsR s.refs us = true) (hfree : lockFit s.locks us = true) :
    Calls Try.prog 99 #[.agg #[.slice A k c], .pointer (some ⟨hb, 0, none⟩), .int .i64 t] w fun e w' => StepYes base hb n done ⟨s.refs, lockSet s.locks t us⟩ w e w' := by
  obtain ⟨lb, mb, hT, hL, hM, hb1, hb2, hb3, hn1, hn2, hn3⟩ := h
  have hhb := hT.lt
  have hlb := hL.lt
  have hmb := hM.lt
  have hsz : base ≤ w.heap.size := by omega
  obtain ⟨⟨x0, x1, x2, x3, hxs, g0, g1, g2, g3⟩, g4, g5, gf⟩ := hist_cells (hT.alloc (.cells #[.slice A k c] 104)) hsl
  have hlk := histAsk (hM.alloc (.cells #[.slice A k c] 104)) ht
  rw [hq] at hlk
  have hlk' : (Instr.lookup 61 (.map (some mb)) (.int .i64 t) true).run Try.prog (w.alloc (.cells #[.slice A k c] 104)) = .ok (.tuple #[.agg #[.int .i64 0, .int .i64 0, .slice none 0 0], .bool false]) (w.alloc (.cells #[.slice A k c] 104)) := hlk
  have HU := Lib.hid ((hU.alloc (by omega) (.cells #[.slice A k c] 104)).alloc (by simp; omega) (.cells #[.int .i64 0, .int .i64 0, .slice none 0 0] 48))
  have HT := Lib.hid ((hT.alloc (.cells #[.slice A k c] 104)).alloc (.cells #[.int .i64 0, .int .i64 0, .slice none 0 0] 48))
  have HL := Lib.hid ((hL.alloc (.cells #[.slice A k c] 104)).alloc (.cells #[.int .i64 0, .int .i64 0, .slice none 0 0] 48))
  have HM := Lib.hid ((hM.alloc (.cells #[.slice A k c] 104)).alloc (.cells #[.int .i64 0, .int .i64 0, .slice none 0 0] 48))
  have HP : Hid (((w.alloc (.cells #[.slice A k c] 104)).alloc (.cells #[.int .i64 0, .int .i64 0, .slice none 0 0] 48)).heap[w.heap.size]? = some (.cells #[.slice A k c] 104 (0, 0))) := (Below.heap_alloc _ _ _ (by simp)).trans (heap_alloc_new w _)
  have hran := Lib.hid (fun u hm => ((uokB_iff u).1 ((updsB_asc hu).1.mem u hm).1).1 : ∀ u ∈ us, 0 ≤ u.ref ∧ u.ref ≤ 3)
  have HLL := Lib.hid hll
  have HXS := Lib.hid hxs
  clear hlk hT hL hM hU hll hxs hsl
  go_enter Try.func99, Try.ntmps99
  go_wp2_with fail
  refine (implUpds_any A k c us _ lo hi (by simp; omega) hk HU.out).mono ?_
  rintro e w2 ⟨rfl, hb2'⟩
  have HB : Hid (Below base w w2) := (((Below.refl _ _).alloc hsz _).alloc (by simp; omega) _).trans (hb2'.mono (by simp; omega))
  have hsz2 : w.heap.size + 1 < w2.heap.size := by have := hb2'.size; simp at this; omega
  have HK2 : Hid (KeepR w w2) := (KeepR.alloc2 w _ _).tr (.bel hb2')
  have HU2 := Lib.hid (HU.out.below hb2' (by simp; omega))
  have HT2 := Lib.hid (HT.out.grown (grown_none hb2' none) (by simp))
  have HL2 := Lib.hid (HL.out.grown (grown_none hb2' none) (by simp))
  have HM2 := Lib.hid (HM.out.kept (grown_none hb2' none) (by simp))
  have hp2 : w2.cell? ⟨w.heap.size, 0, none⟩ = some (.slice A k c) := cell_zero ((hb2'.block _ (by simp; omega)).trans HP.out)
  obtain ⟨-, k4, k5, kf⟩ := hist_cells HT2.out (by rw [HXS.out]; rfl)
  have hc2 := HT2.out
  rw [HXS.out] at hc2
  have k0 : w2.cell? ⟨hb, 0, none⟩ = some (.int .i64 x0) := cell_of_row _ _ 0 _ _ _ hc2
  have k1 : w2.cell? ⟨hb, 1, none⟩ = some (.int .i64 x1) := cell_of_row _ _ 1 _ _ _ hc2
  have k2 : w2.cell? ⟨hb, 2, none⟩ = some (.int .i64 x2) := cell_of_row _ _ 2 _ _ _ hc2
  have k3 : w2.cell? ⟨hb, 3, none⟩ = some (.int .i64 x3) := cell_of_row _ _ 3 _ _ _ hc2
  clear hb2' hc2 g0 g1 g2 g3 g4 g5 gf HU HT HL HM HP hlk'
  rw [hu]
  have hhb2 : hb < w2.heap.size := by omega
  have hlb2 : lb < w2.heap.size := by omega
  have htab : Hid (Tab ((w2.alloc (.cells #[.int .i64 x0, .int .i64 x1, .int .i64 x2, .int .i64 x3] 60)).drew) w2.heap.size [x0, x1, x2, x3]) := heap_alloc_new w2 _
  have HUD : Hid (Fl cu ((w2.alloc (.cells #[.int .i64 x0, .int .i64 x1, .int .i64 x2, .int .i64 x3] 60)).drew) lo hi A k us) := HU2.out.alloc (by omega) _
  have hgap : hi ≤ w2.heap.size := by omega
  have q4 : (w2.alloc (.cells #[.int .i64 x0, .int .i64 x1, .int .i64 x2, .int .i64 x3] 60)).cell? ⟨hb, 4, none⟩ = some (.slice (some ⟨lb, 0, none⟩) 4 4) := (World.cell?_alloc_lt _ _ _ hhb2).trans k4
  have qp : (w2.alloc (.cells #[.int .i64 x0, .int .i64 x1, .int .i64 x2, .int .i64 x3] 60)).cell? ⟨w.heap.size, 0, none⟩ = some (.slice A k c) := (World.cell?_alloc_lt _ _ _ (show w.heap.size < w2.heap.size by omega)).trans hp2
  go_wp2_with fail
  rw [HXS.out] at hf
  have HFR := Lib.hid hfree
  clear hfree
  go_region_held3 (fun w' => w'.cell? ⟨w.heap.size, 0, none⟩ = some (.slice A k c) ∧ w'.cell? ⟨hb, 4, none⟩ = some (.slice (some ⟨lb, 0, none⟩) 4 4)) (go_keep)
    (first
      | (go_at_call 52; (with_reducible refine (apply_any w2.heap.size A k c us [x0, x1, x2, x3] _ lo hi hgap hk (xs4 x0 x1 x2 x3) hran.out htab.out HUD.out).mono ?_); rintro e w4 ⟨-, hg4, rfl⟩; have m0 : w4.cell? ⟨w.heap.size, 0, none⟩ = some (.slice A k c) := (World.cell?_of_block (hg4.block w.heap.size (by simp; omega) (fun e => by injection e with e; omega))).trans qp; have m4 : w4.cell? ⟨hb, 4, none⟩ = some (.slice (some ⟨lb, 0, none⟩) 4 4) := (World.cell?_of_block (hg4.block hb (by simp; omega) (fun e => by injection e with e; omega))).trans q4; have HB4 : Hid (Below base w w4) := ((HB.out.alloc (by omega) _).drew).grown hg4 (by simp; omega) (fun q hq => by injection hq with hq; omega); have HK4 : Hid (KeepR w w4) := HK2.out.tr ((KeepR.alloc w2 _).tr (.row (w := (w2.alloc (.cells #[.int .i64 x0, .int .i64 x1, .int .i64 x2, .int .i64 x3] 60)).drew) (xs := [x0, x1, x2, x3]) (rest := []) hg4 htab.out (.inr (.inr rfl)))); have HT4 : Hid (TabX w4 hb 63 s.refs [.slice (some ⟨lb, 0, none⟩) 4 4, .map (some mb)]) := ((HT2.out.alloc _).drew).grown hg4 (by simp; omega); have HL4 : Hid (TabX w4 lb 3 s.locks []) := ((HL2.out.alloc _).drew).grown hg4 (by simp; omega); have HM4 : Hid (MapI Try.prog 3 w4 mb n (fun t => (lastC done t).map rv)) := ((HM2.out.alloc _).drewN 1).kept hg4 (by simp; omega); have HU4 : Hid (Fl cu w4 lo hi A k us) := HUD.out.grown hg4 (by simp; omega) (fun q hq => by injection hq with hq; omega); have hsz4 : base ≤ w4.heap.size := Nat.le_trans hsz HB4.out.size; clear hg4; rw [hf])
      | (go_at_call 100; (with_reducible refine (lock_any lb 4 3 t A k c us s.locks w4 lo hi (Nat.le_trans hhi hb2) hk HLL.out hran.out HFR.out HL4.out HU4.out).mono ?_); rintro e w5 ⟨hl5, hg5, rfl⟩; have m05 : w5.cell? ⟨w.heap.size, 0, none⟩ = some (.slice A k c) := (World.cell?_of_block (hg5.block w.heap.size (World.block_lt_of_cell? _ _ m0) (fun e => by injection e with e; omega))).trans m0; have m45 : w5.cell? ⟨hb, 4, none⟩ = some (.slice (some ⟨lb, 0, none⟩) 4 4) := (World.cell?_of_block (hg5.block hb (World.block_lt_of_cell? _ _ m4) (fun e => by injection e with e; omega))).trans m4; have HB5 : Hid (Below base w w5) := HB4.out.grown hg5 hsz4 (fun q hq => by injection hq with hq; omega); have HK5 : Hid (KeepR w w5) := HK4.out.tr (.row hg5 HL4.out (.inr (.inl rfl))); have HT5 : Hid (TabX w5 hb 63 s.refs [.slice (some ⟨lb, 0, none⟩) 4 4, .map (some mb)]) := HT4.out.grown hg5 (by simp; omega); have HL5 := Lib.hid hl5; have HM5 : Hid (MapI Try.prog 3 w5 mb n (fun t => (lastC done t).map rv)) := HM4.out.kept hg5 (by simp; omega); clear hg5 hl5))
  go_wp2_with fail
  go_ret
  exact ⟨⟨lb, mb, HT5.out, HL5.out, HM5.out, hb1, hb2, hb3, hn1, hn2, hn3⟩, HB5.out, HK5.out, rfl⟩

end Go.Proofs.Ytgnhanbdfohjaaa
