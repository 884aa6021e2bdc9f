/-
  The walk of l21Step of the reference: what a record does to the state behind others. Condition: the others may follow on one another.
-/
import Derived.Test.YtgnhanbdfohjaaaSpecC
import Derived.Deep.RegionHeld3
import Derived.Deep.DrawnRows
namespace Go.Proofs.Ytgnhanbdfohjaaa
set_option linter.unusedVariables false
set_option linter.unusedSimpArgs false
open Go.RowKit
attribute [local go_sem ↓] Go.wp_at_zero Go.wp_at_succ

/-- refs, locks and an answer handed back -/
def StRetB (s : St) (ok : Bool) (lo : Nat) (w : World) (e : Ending) (w' : World) : Prop :=
  ∃ A1 c1 A2 c2, StIn w' lo A1 c1 A2 c2 s ∧ Below w.heap.size w w' ∧ e = .returned (.tuple #[.agg #[.slice A1 4 c1, .slice A2 4 c2], .bool ok])

theorem ret_agg {w : World} {r : Nat} {x y : Value} {t : TypeId} (h : w.heap[r]? = some (.cells #[x, y] t (0, 0))) :
    w.cell? ⟨r, 0, none⟩ = some x ∧ w.cell? ⟨r, 1, none⟩ = some y ∧ w.frozen? ⟨r, 0, none⟩ = false ∧ w.frozen? ⟨r, 1, none⟩ = false :=
  ⟨cell_of_row w r 0 _ _ _ h, cell_of_row w r 1 _ _ _ h, frozen_of_row w r 0 _ _ h, frozen_of_row w r 1 _ _ h⟩

theorem below3 {w w2 : World} {a b x : Array Value} {t u v : TypeId} (hb : Below (((w.alloc (.cells a t)).alloc (.cells b u)).alloc (.cells x v)).heap.size (((w.alloc (.cells a t)).alloc (.cells b u)).alloc (.cells x v)) w2) : Below w.heap.size w w2 :=
  ((((Below.refl _ _).alloc (Nat.le_refl _) _).alloc (by simp) _).alloc (by simp; omega) _).trans (hb.mono (by simp; omega))
/-- three blocks of the call's own, kept by a callee -/
theorem kept3 {w w2 : World} {a b x : Array Value} {t u v : TypeId} (hb : Below (((w.alloc (.cells a t)).alloc (.cells b u)).alloc (.cells x v)).heap.size (((w.alloc (.cells a t)).alloc (.cells b u)).alloc (.cells x v)) w2) :
    (∀ j, w2.cell? ⟨w.heap.size, j, none⟩ = a[j]?) ∧ (∀ j, w2.cell? ⟨w.heap.size + 1, j, none⟩ = b[j]?) ∧ (∀ j, w2.cell? ⟨w.heap.size + 1 + 1, j, none⟩ = x[j]?) ∧
    (∀ j, w2.frozen? ⟨w.heap.size, j, none⟩ = false ∧ w2.frozen? ⟨w.heap.size + 1, j, none⟩ = false ∧ w2.frozen? ⟨w.heap.size + 1 + 1, j, none⟩ = false) := by
  have e1 : w2.heap[w.heap.size]? = some (.cells a t (0, 0)) := (hb.block _ (by simp; omega)).trans ((Below.heap_alloc _ _ _ (by simp; omega)).trans ((Below.heap_alloc _ _ _ (by simp)).trans (heap_alloc_new w _)))
  have e2 : w2.heap[w.heap.size + 1]? = some (.cells b u (0, 0)) := (hb.block _ (by simp)).trans ((Below.heap_alloc _ _ _ (by simp)).trans (by simpa using heap_alloc_new (w.alloc (.cells a t)) (.cells b u)))
  have e3 : w2.heap[w.heap.size + 1 + 1]? = some (.cells x v (0, 0)) := (hb.block _ (by simp)).trans (by simpa using heap_alloc_new ((w.alloc (.cells a t)).alloc (.cells b u)) (.cells x v))
  exact ⟨fun j => cell_of_row _ _ _ _ _ _ e1, fun j => cell_of_row _ _ _ _ _ _ e2, fun j => cell_of_row _ _ _ _ _ _ e3, fun j => ⟨frozen_of_row _ _ _ _ _ e1, frozen_of_row _ _ _ _ _ e2, frozen_of_row _ _ _ _ _ e3⟩⟩

set_option linter.unusedVariables false in
set_option maxRecDepth 100000 in
set_option maxHeartbeats 1600000 in
theorem step_other (A A1 A2 : Option Addr) (k c c1 c2 : Nat) (rs : List RecC) (s : St) (r : RecC) (w : World) (lo : Nat) (hk : k ≤ 9223372036854775807) (hlo : lo ≤ w.heap.size)
    (h : Recs w lo A k rs) (hs : StIn w lo A1 c1 A2 c2 s) (hr : RecIn w lo r) (h1 : (r.kind == 1) = false) (h2 : (r.kind == 2) = false) (h3 : (r.kind == 3) = false) :
    Calls Try.prog 57 #[.slice A k c, .agg #[.slice A1 4 c1, .slice A2 4 c2], .agg #[.int .i64 r.kind, .int .i64 r.txn, .slice r.A r.n r.c]] w fun e w' => StRetB s false lo w e w' := by
  have HR := Lib.hid h
  have HS := Lib.hid hs
  have HI := Lib.hid hr
  have hbd := hr.bd
  clear h hs hr
  go_enter Try.func57, Try.ntmps57
  go_wp2_with fail
  refine (l21Ask_any A k c rs r.txn _ lo hk (((HR.out.alloc _).alloc _).alloc _)).mono ?_
  rintro e w' ⟨rfl, rfl⟩
  go_wp2_with fail
  have hbel : ∀ a b x, Below w.heap.size w (((w.alloc a).alloc b).alloc x) := fun a b x => (((Below.refl _ _).alloc (Nat.le_refl _) _).alloc (by simp) _).alloc (by simp; omega) _
  exact bodyPost_ret (v := .tuple #[.agg #[.slice A1 4 c1, .slice A2 4 c2], .bool false]) (by simp [results, Try.results57, go_sem]) rfl ⟨A1, c1, A2, c2, HS.out.bel (hbel _ _ _), hbel _ _ _, rfl⟩

set_option linter.unusedVariables false in
set_option maxRecDepth 100000 in
set_option maxHeartbeats 1600000 in
theorem step_known (A A1 A2 : Option Addr) (k c c1 c2 : Nat) (rs : List RecC) (s : St) (r : RecC) (w : World) (lo : Nat) (hk : k ≤ 9223372036854775807) (hlo : lo ≤ w.heap.size)
    (h : Recs w lo A k rs) (hs : StIn w lo A1 c1 A2 c2 s) (hr : RecIn w lo r) (h1 : (r.kind == 1) = true) (ha : (askK (abs rs) r.txn != 0) = true) :
    Calls Try.prog 57 #[.slice A k c, .agg #[.slice A1 4 c1, .slice A2 4 c2], .agg #[.int .i64 r.kind, .int .i64 r.txn, .slice r.A r.n r.c]] w fun e w' => StRetB s false lo w e w' := by
  have HR := Lib.hid h
  have HS := Lib.hid hs
  have HI := Lib.hid hr
  have hbd := hr.bd
  clear h hs hr
  go_enter Try.func57, Try.ntmps57
  go_wp2_with fail
  refine (l21Ask_any A k c rs r.txn _ lo hk (((HR.out.alloc _).alloc _).alloc _)).mono ?_
  rintro e w' ⟨rfl, rfl⟩
  go_wp2_with fail
  have hbel : ∀ a b x, Below w.heap.size w (((w.alloc a).alloc b).alloc x) := fun a b x => (((Below.refl _ _).alloc (Nat.le_refl _) _).alloc (by simp) _).alloc (by simp; omega) _
  exact bodyPost_ret (v := .tuple #[.agg #[.slice A1 4 c1, .slice A2 4 c2], .bool false]) (by simp [results, Try.results57, go_sem]) rfl ⟨A1, c1, A2, c2, HS.out.bel (hbel _ _ _), hbel _ _ _, rfl⟩

set_option linter.unusedVariables false in
set_option maxRecDepth 100000 in
set_option maxHeartbeats 1600000 in
theorem step_bad (A A1 A2 : Option Addr) (k c c1 c2 : Nat) (rs : List RecC) (s : St) (r : RecC) (w : World) (lo : Nat) (hk : k ≤ 9223372036854775807) (hlo : lo ≤ w.heap.size)
    (h : Recs w lo A k rs) (hs : StIn w lo A1 c1 A2 c2 s) (hr : RecIn w lo r) (h1 : (r.kind == 1) = true) (ha : (askK (abs rs) r.txn != 0) = false) (hu : updsB r.us = false) :
    Calls Try.prog 57 #[.slice A k c, .agg #[.slice A1 4 c1, .slice A2 4 c2], .agg #[.int .i64 r.kind, .int .i64 r.txn, .slice r.A r.n r.c]] w fun e w' => StRetB s false lo w e w' := by
  have HR := Lib.hid h
  have HS := Lib.hid hs
  have HI := Lib.hid hr
  have hbd := hr.bd
  clear h hs hr
  go_enter Try.func57, Try.ntmps57
  go_wp2_with fail
  refine (l21Ask_any A k c rs r.txn _ lo hk (((HR.out.alloc _).alloc _).alloc _)).mono ?_
  rintro e w' ⟨rfl, rfl⟩
  go_wp2_with fail
  refine (specUpds_any r.A r.n r.c r.us _ lo _ (Nat.le_refl _) hbd (((HI.out.1.alloc _).alloc _).alloc _)).mono ?_
  rintro e w2 ⟨rfl, hb2⟩
  obtain ⟨q1, q2, q3, q4⟩ := kept3 (w := w) hb2
  have HB2 := Lib.hid (below3 hb2)
  clear hb2
  go_wp2_with fail
  have hbel := (HB2.out.setCell (p := ⟨w.heap.size + 1 + 1, 0, none⟩) (by simp; omega) (.slice A1 4 c1)).setCell (p := ⟨w.heap.size + 1 + 1, 1, none⟩) (by simp; omega) (.slice A2 4 c2)
  exact bodyPost_ret (v := .tuple #[.agg #[.slice A1 4 c1, .slice A2 4 c2], .bool false]) (by simp [results, Try.results57, go_sem, q3]) rfl ⟨A1, c1, A2, c2, HS.out.bel hbel, hbel, rfl⟩

set_option linter.unusedVariables false in
set_option maxRecDepth 100000 in
set_option maxHeartbeats 1600000 in
theorem step_nofit (A A1 A2 : Option Addr) (k c c1 c2 : Nat) (rs : List RecC) (s : St) (r : RecC) (w : World) (lo : Nat) (hk : k ≤ 9223372036854775807) (hlo : lo ≤ w.heap.size)
    (h : Recs w lo A k rs) (hs : StIn w lo A1 c1 A2 c2 s) (hr : RecIn w lo r) (h1 : (r.kind == 1) = true) (ha : (askK (abs rs) r.txn != 0) = false) (hu : updsB r.us = true) (hf : fitsR s.refs r.us = false) :
    Calls Try.prog 57 #[.slice A k c, .agg #[.slice A1 4 c1, .slice A2 4 c2], .agg #[.int .i64 r.kind, .int .i64 r.txn, .slice r.A r.n r.c]] w fun e w' => StRetB s false lo w e w' := by
  have HR := Lib.hid h
  have HS := Lib.hid hs
  have HI := Lib.hid hr
  have hbd := hr.bd
  clear h hs hr
  go_enter Try.func57, Try.ntmps57
  go_wp2_with fail
  refine (l21Ask_any A k c rs r.txn _ lo hk (((HR.out.alloc _).alloc _).alloc _)).mono ?_
  rintro e w' ⟨rfl, rfl⟩
  go_wp2_with fail
  refine (specUpds_any r.A r.n r.c r.us _ lo _ (Nat.le_refl _) hbd (((HI.out.1.alloc _).alloc _).alloc _)).mono ?_
  rintro e w2 ⟨rfl, hb2⟩
  obtain ⟨q1, q2, q3, q4⟩ := kept3 (w := w) hb2
  have HB2 := Lib.hid (below3 hb2)
  have HS2 := Lib.hid (HS.out.bel (below3 hb2))
  have HI2 := Lib.hid (HI.out.bel (below3 hb2))
  have hsz2 : w.heap.size + 1 + 1 < w2.heap.size := by have := hb2.size; simp at this; omega
  have hran := Lib.hid (fun u hm => ((uokB_iff u).1 ((updsB_asc hu).1.mem u hm).1).1)
  clear hb2
  go_wp2_with fail
  refine (specFits_any A1 r.A c1 r.n r.c s.refs r.us w2 _ _ _ _ hbd hran.out HS2.out.1 HI2.out.1).mono ?_
  rintro e w3 ⟨rfl, m, rfl⟩
  go_wp2_with fail
  have hbel := ((below_drewN HB2.out m).setCell (p := ⟨w.heap.size + 1 + 1, 0, none⟩) (by simp; omega) (.slice A1 4 c1)).setCell (p := ⟨w.heap.size + 1 + 1, 1, none⟩) (by simp; omega) (.slice A2 4 c2)
  exact bodyPost_ret (v := .tuple #[.agg #[.slice A1 4 c1, .slice A2 4 c2], .bool false]) (by simp [results, Try.results57, go_sem, q3]) rfl ⟨A1, c1, A2, c2, HS.out.bel hbel, hbel, rfl⟩

set_option linter.unusedVariables false in
set_option maxRecDepth 100000 in
set_option maxHeartbeats 1600000 in
theorem step_vote (A A1 A2 : Option Addr) (k c c1 c2 : Nat) (rs : List RecC) (s : St) (r : RecC) (w : World) (lo : Nat) (hk : k ≤ 9223372036854775807) (hlo : lo ≤ w.heap.size)
    (h : Recs w lo A k rs) (hs : StIn w lo A1 c1 A2 c2 s) (hr : RecIn w lo r) (h1 : (r.kind == 1) = true) (ha : (askK (abs rs) r.txn != 0) = false) (hu : updsB r.us = true) (hf : fitsR s.refs r.us = true) :
    Calls Try.prog 57 #[.slice A k c, .agg #[.slice A1 4 c1, .slice A2 4 c2], .agg #[.int .i64 r.kind, .int .i64 r.txn, .slice r.A r.n r.c]] w fun e w' => StRetB ⟨s.refs, takeL s.locks r.txn r.us⟩ (lockFit s.locks r.us) lo w e w' := by
  have HR := Lib.hid h
  have HS := Lib.hid hs
  have HI := Lib.hid hr
  have hbd := hr.bd
  clear h hs hr
  go_enter Try.func57, Try.ntmps57
  go_wp2_with fail
  refine (l21Ask_any A k c rs r.txn _ lo hk (((HR.out.alloc _).alloc _).alloc _)).mono ?_
  rintro e w' ⟨rfl, rfl⟩
  go_wp2_with fail
  refine (specUpds_any r.A r.n r.c r.us _ lo _ (Nat.le_refl _) hbd (((HI.out.1.alloc _).alloc _).alloc _)).mono ?_
  rintro e w2 ⟨rfl, hb2⟩
  obtain ⟨q1, q2, q3, q4⟩ := kept3 (w := w) hb2
  have HB2 := Lib.hid (below3 hb2)
  have HS2 := Lib.hid (HS.out.bel (below3 hb2))
  have HI2 := Lib.hid (HI.out.bel (below3 hb2))
  have hsz2 : w.heap.size + 1 + 1 < w2.heap.size := by have := hb2.size; simp at this; omega
  have hran := Lib.hid (fun u hm => ((uokB_iff u).1 ((updsB_asc hu).1.mem u hm).1).1)
  clear hb2
  go_wp2_with fail
  refine (specFits_any A1 r.A c1 r.n r.c s.refs r.us w2 _ _ _ _ hbd hran.out HS2.out.1 HI2.out.1).mono ?_
  rintro e w3 ⟨rfl, m, rfl⟩
  go_wp2_with fail
  refine (l12Take_any A2 r.A c2 r.n r.c s.locks r.txn r.us (w2.drewN m) lo lo hbd hran.out (HS2.out.2.1.drewN m) (HI2.out.1.drewN m)).mono ?_
  rintro e w4 ⟨v, hown, hb4, rfl⟩
  have hb2c := bcell hb4
  obtain ⟨A4, c4, rfl, hc4, hm4, hl4⟩ := own_intsH hown
  have HL4 := Lib.hid hl4
  have HB4 : Hid (Below w.heap.size w w4) := (below_drewN HB2.out m).trans (hb4.mono HB2.out.size)
  have k0 : w4.cell? ⟨w.heap.size, 0, none⟩ = some (.slice A1 4 c1) := (hb2c.1 w.heap.size 0 (by simp; omega)).trans (q1 0)
  have k1 : w4.cell? ⟨w.heap.size + 1 + 1, 0, none⟩ = some (.slice none 0 0) := (hb2c.1 (w.heap.size + 1 + 1) 0 (by simp; omega)).trans (q3 0)
  have k2 : w4.cell? ⟨w.heap.size + 1 + 1, 1, none⟩ = some (.slice none 0 0) := (hb2c.1 (w.heap.size + 1 + 1) 1 (by simp; omega)).trans (q3 1)
  have f1 : w4.frozen? ⟨w.heap.size + 1 + 1, 0, none⟩ = false := (hb2c.2 (w.heap.size + 1 + 1) 0 (by simp; omega)).trans (q4 0).2.2
  have f2 : w4.frozen? ⟨w.heap.size + 1 + 1, 1, none⟩ = false := (hb2c.2 (w.heap.size + 1 + 1) 1 (by simp; omega)).trans (q4 1).2.2
  have hsz4 : w.heap.size + 1 + 1 < w4.heap.size := by have := hb4.size; simp at this; omega
  have hlow : w.heap.size + 1 + 1 < (w2.drewN m).heap.size := hsz2
  have hlol : lo ≤ (w2.drewN m).heap.size := by simp; omega
  clear hb4 hb2c hown hl4 q1 q2 q3 q4
  go_wp2_with fail
  have hbel := (HB4.out.setCell (p := ⟨w.heap.size + 1 + 1, 0, none⟩) (by simp; omega) (.slice A1 4 c1)).setCell (p := ⟨w.heap.size + 1 + 1, 1, none⟩) (by simp; omega) (.slice A4 4 c4)
  have hgo : ∀ g, some (w.heap.size + 1 + 1) = some g → g < (w2.drewN m).heap.size := fun g e => by injection e with e; omega
  exact bodyPost_ret (v := .tuple #[.agg #[.slice A1 4 c1, .slice A4 4 c4], .bool (lockFit s.locks r.us)]) (by simp [results, Try.results57, go_sem, k1, k2]) rfl ⟨A1, c1, A4, c4, ⟨(HS.out.bel hbel).1, ((HL4.out.grown (set_grown _ _ _ _) hgo).grown (set_grown _ _ _ _) hgo).low hlol, HS.out.2.2.1, HS.out.2.2.2.1, hc4, hm4⟩, hbel, rfl⟩

end Go.Proofs.Ytgnhanbdfohjaaa
