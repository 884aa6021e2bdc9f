/-
  The walk of l21Step of the reference at a decision. Condition: the others may follow on one another.
-/
import Derived.Test.YtgnhanbdfohjaaaSpecD
namespace Go.Proofs.Ytgnhanbdfohjaaa
set_option linter.unusedVariables false
set_option linter.unusedSimpArgs false
open Go.RowKit
attribute [local go_sem ↓] Go.wp_at_zero Go.wp_at_succ

theorem specSetH_any (A1 A2 : Option Addr) (c1 n2 c2 : Nat) (xs : List Int) (us : List Upd) (w : World) (lo lo' : Nat) (hn2 : n2 ≤ 9223372036854775807) (hr : ∀ u ∈ us, 0 ≤ u.ref ∧ u.ref ≤ 3)
    (hx : FlH ci w lo A1 4 xs) (hu : FlH cu w lo' A2 n2 us) :
    Calls Try.prog 75 #[.slice A1 4 c1, .slice A2 n2 c2] w fun e w' => ∃ v, w'.ownsRow w.heap.size 3 1 v 4 ((setR xs us).flatMap ci) ∧ Below w.heap.size w w' ∧ e = .returned v :=
  specSet_any A1 A2 c1 n2 c2 xs us w lo _ lo' _ (Nat.le_refl _) (Nat.le_refl _) hn2 hr hx hu
/-- the same behind a draw -/
theorem kept3d {w w2 : World} {a b x : Array Value} {t u v : TypeId} (hb : Below ((((w.alloc (.cells a t)).alloc (.cells b u)).alloc (.cells x v)).drew).heap.size ((((w.alloc (.cells a t)).alloc (.cells b u)).alloc (.cells x v)).drew) w2) :
    (∀ j, w2.cell? ⟨w.heap.size, j, none⟩ = a[j]?) ∧ (∀ j, w2.cell? ⟨w.heap.size + 1, j, none⟩ = b[j]?) ∧ (∀ j, w2.cell? ⟨w.heap.size + 1 + 1, j, none⟩ = x[j]?) ∧
    (∀ j, w2.frozen? ⟨w.heap.size, j, none⟩ = false ∧ w2.frozen? ⟨w.heap.size + 1, j, none⟩ = false ∧ w2.frozen? ⟨w.heap.size + 1 + 1, j, none⟩ = false) :=
  kept3 (w := w) (w2 := w2) ⟨hb.os, hb.tape, hb.output, hb.size, hb.block⟩
theorem below3d {w w2 : World} {a b x : Array Value} {t u v : TypeId} (hb : Below ((((w.alloc (.cells a t)).alloc (.cells b u)).alloc (.cells x v)).drew).heap.size ((((w.alloc (.cells a t)).alloc (.cells b u)).alloc (.cells x v)).drew) w2) : Below w.heap.size w w2 :=
  below3 (w := w) (w2 := w2) ⟨hb.os, hb.tape, hb.output, hb.size, hb.block⟩

set_option linter.unusedVariables false in
set_option maxRecDepth 100000 in
set_option maxHeartbeats 1600000 in
theorem step_nocommit (A A1 A2 : Option Addr) (k c c1 c2 : Nat) (rs : List RecC) (s : St) (r : RecC) (w : World) (lo : Nat) (hk : k ≤ 9223372036854775807) (hlo : lo ≤ w.heap.size)
    (h : Recs w lo A k rs) (hs : StIn w lo A1 c1 A2 c2 s) (hr : RecIn w lo r) (h1 : (r.kind == 1) = false) (h2 : (r.kind == 2) = true) (ha : (askK (abs rs) r.txn != 1) = true) :
    Calls Try.prog 57 #[.slice A k c, .agg #[.slice A1 4 c1, .slice A2 4 c2], .agg #[.int .i64 r.kind, .int .i64 r.txn, .slice r.A r.n r.c]] w fun e w' => StRetB s false lo w e w' := by
  have HR := Lib.hid h
  have HS := Lib.hid hs
  have HI := Lib.hid hr
  have hbd := hr.bd
  clear h hs hr
  go_enter Try.func57, Try.ntmps57
  go_wp2_with fail
  refine (l21Ask_any A k c rs r.txn _ lo hk (((HR.out.alloc _).alloc _).alloc _)).mono ?_
  rintro e w' ⟨rfl, rfl⟩
  go_wp2_with fail
  have hbel : ∀ a b x, Below w.heap.size w (((w.alloc a).alloc b).alloc x) := fun a b x => (((Below.refl _ _).alloc (Nat.le_refl _) _).alloc (by simp) _).alloc (by simp; omega) _
  exact bodyPost_ret (v := .tuple #[.agg #[.slice A1 4 c1, .slice A2 4 c2], .bool false]) (by simp [results, Try.results57, go_sem]) rfl ⟨A1, c1, A2, c2, HS.out.bel (hbel _ _ _), hbel _ _ _, rfl⟩

set_option linter.unusedVariables false in
set_option maxRecDepth 100000 in
set_option maxHeartbeats 1600000 in
theorem step_fullcommit (A A1 A2 : Option Addr) (k c c1 c2 : Nat) (rs : List RecC) (s : St) (r : RecC) (w : World) (lo : Nat) (hk : k ≤ 9223372036854775807) (hlo : lo ≤ w.heap.size)
    (h : Recs w lo A k rs) (hs : StIn w lo A1 c1 A2 c2 s) (hr : RecIn w lo r) (h1 : (r.kind == 1) = false) (h2 : (r.kind == 2) = true) (ha : (askK (abs rs) r.txn != 1) = false) (hu : 0 < r.n) :
    Calls Try.prog 57 #[.slice A k c, .agg #[.slice A1 4 c1, .slice A2 4 c2], .agg #[.int .i64 r.kind, .int .i64 r.txn, .slice r.A r.n r.c]] w fun e w' => StRetB s false lo w e w' := by
  have HR := Lib.hid h
  have HS := Lib.hid hs
  have HI := Lib.hid hr
  have hbd := hr.bd
  clear h hs hr
  go_enter Try.func57, Try.ntmps57
  go_wp2_with fail
  refine (l21Ask_any A k c rs r.txn _ lo hk (((HR.out.alloc _).alloc _).alloc _)).mono ?_
  rintro e w' ⟨rfl, rfl⟩
  have hui : (0 : Int) < r.n := by omega
  go_wp2_with fail
  have hbel : ∀ a b x, Below w.heap.size w (((w.alloc a).alloc b).alloc x) := fun a b x => (((Below.refl _ _).alloc (Nat.le_refl _) _).alloc (by simp) _).alloc (by simp; omega) _
  exact bodyPost_ret (v := .tuple #[.agg #[.slice A1 4 c1, .slice A2 4 c2], .bool false]) (by simp [results, Try.results57, go_sem]) rfl ⟨A1, c1, A2, c2, HS.out.bel (hbel _ _ _), hbel _ _ _, rfl⟩

set_option linter.unusedVariables false in
set_option maxRecDepth 100000 in
set_option maxHeartbeats 1600000 in
theorem step_noabort (A A1 A2 : Option Addr) (k c c1 c2 : Nat) (rs : List RecC) (s : St) (r : RecC) (w : World) (lo : Nat) (hk : k ≤ 9223372036854775807) (hlo : lo ≤ w.heap.size)
    (h : Recs w lo A k rs) (hs : StIn w lo A1 c1 A2 c2 s) (hr : RecIn w lo r) (h1 : (r.kind == 1) = false) (h2 : (r.kind == 2) = false) (h3 : (r.kind == 3) = true) (ha : (askK (abs rs) r.txn != 0) = true) (hb : (askK (abs rs) r.txn != 1) = true) :
    Calls Try.prog 57 #[.slice A k c, .agg #[.slice A1 4 c1, .slice A2 4 c2], .agg #[.int .i64 r.kind, .int .i64 r.txn, .slice r.A r.n r.c]] w fun e w' => StRetB s false lo w e w' := by
  have HR := Lib.hid h
  have HS := Lib.hid hs
  have HI := Lib.hid hr
  have hbd := hr.bd
  clear h hs hr
  go_enter Try.func57, Try.ntmps57
  go_wp2_with fail
  refine (l21Ask_any A k c rs r.txn _ lo hk (((HR.out.alloc _).alloc _).alloc _)).mono ?_
  rintro e w' ⟨rfl, rfl⟩
  go_wp2_with fail
  have hbel : ∀ a b x, Below w.heap.size w (((w.alloc a).alloc b).alloc x) := fun a b x => (((Below.refl _ _).alloc (Nat.le_refl _) _).alloc (by simp) _).alloc (by simp; omega) _
  exact bodyPost_ret (v := .tuple #[.agg #[.slice A1 4 c1, .slice A2 4 c2], .bool false]) (by simp [results, Try.results57, go_sem]) rfl ⟨A1, c1, A2, c2, HS.out.bel (hbel _ _ _), hbel _ _ _, rfl⟩

set_option linter.unusedVariables false in
set_option maxRecDepth 100000 in
set_option maxHeartbeats 1600000 in
theorem step_fullabort (A A1 A2 : Option Addr) (k c c1 c2 : Nat) (rs : List RecC) (s : St) (r : RecC) (w : World) (lo : Nat) (hk : k ≤ 9223372036854775807) (hlo : lo ≤ w.heap.size)
    (h : Recs w lo A k rs) (hs : StIn w lo A1 c1 A2 c2 s) (hr : RecIn w lo r) (h1 : (r.kind == 1) = false) (h2 : (r.kind == 2) = false) (h3 : (r.kind == 3) = true) (ha : (askK (abs rs) r.txn != 0) = false ∨ ((askK (abs rs) r.txn != 0) = true ∧ (askK (abs rs) r.txn != 1) = false)) (hu : 0 < r.n) :
    Calls Try.prog 57 #[.slice A k c, .agg #[.slice A1 4 c1, .slice A2 4 c2], .agg #[.int .i64 r.kind, .int .i64 r.txn, .slice r.A r.n r.c]] w fun e w' => StRetB s false lo w e w' := by
  have hui : (0 : Int) < r.n := by omega
  rcases ha with ha | ⟨ha, hb⟩
  all_goals
    have HR := Lib.hid h
    have HS := Lib.hid hs
    have HI := Lib.hid hr
    have hbd := hr.bd
    clear h hs hr
    go_enter Try.func57, Try.ntmps57
    go_wp2_with fail
    refine (l21Ask_any A k c rs r.txn _ lo hk (((HR.out.alloc _).alloc _).alloc _)).mono ?_
    rintro e w' ⟨rfl, rfl⟩
    go_wp2_with fail
    have hbel : ∀ a b x, Below w.heap.size w (((w.alloc a).alloc b).alloc x) := fun a b x => (((Below.refl _ _).alloc (Nat.le_refl _) _).alloc (by simp) _).alloc (by simp; omega) _
    exact bodyPost_ret (v := .tuple #[.agg #[.slice A1 4 c1, .slice A2 4 c2], .bool false]) (by simp [results, Try.results57, go_sem]) rfl ⟨A1, c1, A2, c2, HS.out.bel (hbel _ _ _), hbel _ _ _, rfl⟩

set_option linter.unusedVariables false in
set_option maxRecDepth 100000 in
set_option maxHeartbeats 1600000 in
theorem step_abort (A A1 A2 : Option Addr) (k c c1 c2 : Nat) (rs : List RecC) (s : St) (r : RecC) (w : World) (lo : Nat) (hk : k ≤ 9223372036854775807) (hlo : lo ≤ w.heap.size)
    (h : Recs w lo A k rs) (hs : StIn w lo A1 c1 A2 c2 s) (hr : RecIn w lo r) (h1 : (r.kind == 1) = false) (h2 : (r.kind == 2) = false) (h3 : (r.kind == 3) = true) (ha : (askK (abs rs) r.txn != 0) = false ∨ ((askK (abs rs) r.txn != 0) = true ∧ (askK (abs rs) r.txn != 1) = false)) (hu : r.n = 0) :
    Calls Try.prog 57 #[.slice A k c, .agg #[.slice A1 4 c1, .slice A2 4 c2], .agg #[.int .i64 r.kind, .int .i64 r.txn, .slice r.A r.n r.c]] w fun e w' => StRetB ⟨s.refs, freeL s.locks r.txn⟩ true lo w e w' := by
  rcases ha with ha | ⟨ha, hb⟩
  · have HR := Lib.hid h
    have HS := Lib.hid hs
    have HI := Lib.hid hr
    have hbd := hr.bd
    clear h hs hr
    go_enter Try.func57, Try.ntmps57
    go_wp2_with fail
    refine (l21Ask_any A k c rs r.txn _ lo hk (((HR.out.alloc _).alloc _).alloc _)).mono ?_
    rintro e w' ⟨rfl, rfl⟩
    rw [hu]
    go_wp2_with fail
    have HSD : Hid (FlH ci ((((w.alloc (.cells #[.slice A1 4 c1, .slice A2 4 c2] 30)).alloc (.cells #[.int .i64 r.kind, .int .i64 r.txn, .slice r.A 0 r.c] 48)).alloc (.cells #[.slice none 0 0, .slice none 0 0] 30)).drew) lo A2 4 s.locks) := (((HS.out.2.1.alloc _).alloc _).alloc _).drewN 1
    have hne0 : ¬ (w.heap.size + 1 + 1 = w.heap.size) := by omega
    have hne1 : ¬ (w.heap.size = w.heap.size + 1 + 1) := by omega
    go_region_held3 (fun w' => w'.cell? ⟨w.heap.size, 0, none⟩ = some (.slice A1 4 c1) ∧ w'.cell? ⟨w.heap.size, 1, none⟩ = some (.slice A2 4 c2) ∧ w'.cell? ⟨w.heap.size + 1, 1, none⟩ = some (.int .i64 r.txn)) (go_keep)
      ((go_at_call 77; (with_reducible refine (l12Free_any A2 4 c2 s.locks r.txn _ lo (by omega) HSD.out).mono ?_); rintro e w4 ⟨v, hown, hb4, rfl⟩; obtain ⟨q1, q2, q3, q4⟩ := kept3d (w := w) hb4; have HB4 := Lib.hid (below3d hb4); obtain ⟨A4, c4, rfl, hc4, hm4, hl4⟩ := own_intsH hown; have HL4 := Lib.hid hl4; have hsz4 : w.heap.size + 1 + 1 < w4.heap.size := (by have := hb4.size; simp at this; omega); clear hb4 hown hl4))
    go_wp2_with fail
    have hbel := (HB4.out.setCell (p := ⟨w.heap.size + 1 + 1, 0, none⟩) (by simp; omega) (.slice A1 4 c1)).setCell (p := ⟨w.heap.size + 1 + 1, 1, none⟩) (by simp; omega) (.slice A4 4 c4)
    have hgo : ∀ g, some (w.heap.size + 1 + 1) = some g → g < ((((w.alloc (.cells #[.slice A1 4 c1, .slice A2 4 c2] 30)).alloc (.cells #[.int .i64 r.kind, .int .i64 r.txn, .slice r.A 0 r.c] 48)).alloc (.cells #[.slice none 0 0, .slice none 0 0] 30)).drew).heap.size := fun g e => by injection e with e; simp; omega
    exact bodyPost_ret (v := .tuple #[.agg #[.slice A1 4 c1, .slice A4 4 c4], .bool true]) (by simp [results, Try.results57, go_sem, q3]) rfl ⟨A1, c1, A4, c4, ⟨(HS.out.bel hbel).1, ((HL4.out.grown (set_grown _ _ _ _) hgo).grown (set_grown _ _ _ _) hgo).low (by simp; omega), HS.out.2.2.1, HS.out.2.2.2.1, hc4, hm4⟩, hbel, rfl⟩
  · have HR := Lib.hid h
    have HS := Lib.hid hs
    have HI := Lib.hid hr
    have hbd := hr.bd
    clear h hs hr
    go_enter Try.func57, Try.ntmps57
    go_wp2_with fail
    refine (l21Ask_any A k c rs r.txn _ lo hk (((HR.out.alloc _).alloc _).alloc _)).mono ?_
    rintro e w' ⟨rfl, rfl⟩
    rw [hu]
    go_wp2_with fail
    have HSD : Hid (FlH ci ((((w.alloc (.cells #[.slice A1 4 c1, .slice A2 4 c2] 30)).alloc (.cells #[.int .i64 r.kind, .int .i64 r.txn, .slice r.A 0 r.c] 48)).alloc (.cells #[.slice none 0 0, .slice none 0 0] 30)).drew) lo A2 4 s.locks) := (((HS.out.2.1.alloc _).alloc _).alloc _).drewN 1
    have hne0 : ¬ (w.heap.size + 1 + 1 = w.heap.size) := by omega
    have hne1 : ¬ (w.heap.size = w.heap.size + 1 + 1) := by omega
    go_region_held3 (fun w' => w'.cell? ⟨w.heap.size, 0, none⟩ = some (.slice A1 4 c1) ∧ w'.cell? ⟨w.heap.size, 1, none⟩ = some (.slice A2 4 c2) ∧ w'.cell? ⟨w.heap.size + 1, 1, none⟩ = some (.int .i64 r.txn)) (go_keep)
      ((go_at_call 77; (with_reducible refine (l12Free_any A2 4 c2 s.locks r.txn _ lo (by omega) HSD.out).mono ?_); rintro e w4 ⟨v, hown, hb4, rfl⟩; obtain ⟨q1, q2, q3, q4⟩ := kept3d (w := w) hb4; have HB4 := Lib.hid (below3d hb4); obtain ⟨A4, c4, rfl, hc4, hm4, hl4⟩ := own_intsH hown; have HL4 := Lib.hid hl4; have hsz4 : w.heap.size + 1 + 1 < w4.heap.size := (by have := hb4.size; simp at this; omega); clear hb4 hown hl4))
    go_wp2_with fail
    have hbel := (HB4.out.setCell (p := ⟨w.heap.size + 1 + 1, 0, none⟩) (by simp; omega) (.slice A1 4 c1)).setCell (p := ⟨w.heap.size + 1 + 1, 1, none⟩) (by simp; omega) (.slice A4 4 c4)
    have hgo : ∀ g, some (w.heap.size + 1 + 1) = some g → g < ((((w.alloc (.cells #[.slice A1 4 c1, .slice A2 4 c2] 30)).alloc (.cells #[.int .i64 r.kind, .int .i64 r.txn, .slice r.A 0 r.c] 48)).alloc (.cells #[.slice none 0 0, .slice none 0 0] 30)).drew).heap.size := fun g e => by injection e with e; simp; omega
    exact bodyPost_ret (v := .tuple #[.agg #[.slice A1 4 c1, .slice A4 4 c4], .bool true]) (by simp [results, Try.results57, go_sem, q3]) rfl ⟨A1, c1, A4, c4, ⟨(HS.out.bel hbel).1, ((HL4.out.grown (set_grown _ _ _ _) hgo).grown (set_grown _ _ _ _) hgo).low (by simp; omega), HS.out.2.2.1, HS.out.2.2.2.1, hc4, hm4⟩, hbel, rfl⟩

set_option linter.unusedVariables false in
set_option maxRecDepth 100000 in
set_option maxHeartbeats 3200000 in
theorem step_commit (A A1 A2 : Option Addr) (k c c1 c2 : Nat) (rs : List RecC) (s : St) (r : RecC) (w : World) (lo : Nat) (hk : k ≤ 9223372036854775807) (hlo : lo ≤ w.heap.size)
    (h : Recs w lo A k rs) (hs : StIn w lo A1 c1 A2 c2 s) (hr : RecIn w lo r) (h1 : (r.kind == 1) = false) (h2 : (r.kind == 2) = true) (ha : (askK (abs rs) r.txn != 1) = false) (hu : r.n = 0) (hran : ∀ u ∈ prepU (abs rs) r.txn, 0 ≤ u.ref ∧ u.ref ≤ 3) :
    Calls Try.prog 57 #[.slice A k c, .agg #[.slice A1 4 c1, .slice A2 4 c2], .agg #[.int .i64 r.kind, .int .i64 r.txn, .slice r.A r.n r.c]] w fun e w' => StRetB ⟨setR s.refs (prepU (abs rs) r.txn), freeL s.locks r.txn⟩ true lo w e w' := by
  have HN := Lib.hid hran
  clear hran
  have HR := Lib.hid h
  have HS := Lib.hid hs
  have HI := Lib.hid hr
  have hbd := hr.bd
  clear h hs hr
  go_enter Try.func57, Try.ntmps57
  go_wp2_with fail
  refine (l21Ask_any A k c rs r.txn _ lo hk (((HR.out.alloc _).alloc _).alloc _)).mono ?_
  rintro e w' ⟨rfl, rfl⟩
  rw [hu]
  go_wp2_with fail
  have HRD : Hid (Recs (((w.alloc (.cells #[.slice A1 4 c1, .slice A2 4 c2] 30)).alloc (.cells #[.int .i64 r.kind, .int .i64 r.txn, .slice r.A 0 r.c] 48)).alloc (.cells #[.slice none 0 0, .slice none 0 0] 30)).drew lo A k rs) := (((HR.out.alloc _).alloc _).alloc _).drewN 1
  have hlod : lo ≤ (((w.alloc (.cells #[.slice A1 4 c1, .slice A2 4 c2] 30)).alloc (.cells #[.int .i64 r.kind, .int .i64 r.txn, .slice r.A 0 r.c] 48)).alloc (.cells #[.slice none 0 0, .slice none 0 0] 30)).drew.heap.size := by simp; omega
  have hne0 : ¬ (w.heap.size + 1 + 1 = w.heap.size) := by omega
  have hne1 : ¬ (w.heap.size = w.heap.size + 1 + 1) := by omega
  go_region_held3 (fun w' => w'.cell? ⟨w.heap.size, 0, none⟩ = some (.slice A1 4 c1) ∧ w'.cell? ⟨w.heap.size, 1, none⟩ = some (.slice A2 4 c2) ∧ w'.cell? ⟨w.heap.size + 1, 1, none⟩ = some (.int .i64 r.txn)) (go_keep)
    (first
      | (go_at_call 76; (with_reducible refine (l21Updates_any A k c rs r.txn _ lo hk hlod HRD.out).mono ?_); rintro e w4 ⟨A3, n3, c3, rfl, hnc3, hc3, hU3, hb4⟩; obtain ⟨q1, q2, q3, q4⟩ := kept3d (w := w) hb4; have HB4 := Lib.hid (below3d hb4); have HU4 := Lib.hid hU3; have HS4 := Lib.hid (HS.out.bel (below3d hb4)); have hn3 : n3 ≤ 9223372036854775807 := Nat.le_trans hnc3 hc3; have hsz4 : w.heap.size + 1 + 1 < w4.heap.size := (by have := hb4.size; simp at this; omega); clear hb4 hU3)
      | (go_at_call 75; (with_reducible refine (specSetH_any A1 A3 c1 n3 c3 s.refs (prepU (abs rs) r.txn) w4 lo lo hn3 HN.out HS4.out.refs HU4.out).mono ?_); rintro e w5 ⟨v, hown, hb5, rfl⟩; obtain ⟨A5, c5, rfl, hc5, hm5, hl5⟩ := own_intsH hown; have HL5 := Lib.hid hl5; have HB5 : Hid (Below w.heap.size w w5) := HB4.out.trans (hb5.mono HB4.out.size); have HS5 := Lib.hid (HS4.out.bel hb5); have hbc5 := bcell hb5; have p0 := (hbc5.1 w.heap.size 0 (by omega)).trans (q1 0); have p1 := (hbc5.1 w.heap.size 1 (by omega)).trans (q1 1); have p2 := (hbc5.1 (w.heap.size + 1) 1 (by omega)).trans (q2 1); have p3 := (hbc5.1 (w.heap.size + 1 + 1) 0 (by omega)).trans (q3 0); have p4 := (hbc5.1 (w.heap.size + 1 + 1) 1 (by omega)).trans (q3 1); have p5 := (hbc5.2 (w.heap.size + 1 + 1) 0 (by omega)).trans (q4 0).2.2; have p6 := (hbc5.2 (w.heap.size + 1 + 1) 1 (by omega)).trans (q4 1).2.2; have hsz5 : w.heap.size + 1 + 1 < w5.heap.size := (by have := hb5.size; omega); clear hown hb5 hl5 hbc5 q1 q2 q3 q4)
      | (go_at_call 77; (with_reducible refine (l12Free_any A2 4 c2 s.locks r.txn w5 lo (by omega) HS5.out.locks).mono ?_); rintro e w6 ⟨v, hown, hb6, rfl⟩; obtain ⟨A6, c6, rfl, hc6, hm6, hl6⟩ := own_intsH hown; have HL6 := Lib.hid hl6; have HB6 : Hid (Below w.heap.size w w6) := HB5.out.trans (hb6.mono HB5.out.size); have HL56 := Lib.hid (HL5.out.bel hb6); have hbc6 := bcell hb6; have o0 := (hbc6.1 w.heap.size 0 (by omega)).trans p0; have o1 := (hbc6.1 w.heap.size 1 (by omega)).trans p1; have o2 := (hbc6.1 (w.heap.size + 1) 1 (by omega)).trans p2; have o3 := (hbc6.1 (w.heap.size + 1 + 1) 0 (by omega)).trans p3; have o4 := (hbc6.1 (w.heap.size + 1 + 1) 1 (by omega)).trans p4; have o5 := (hbc6.2 (w.heap.size + 1 + 1) 0 (by omega)).trans p5; have o6 := (hbc6.2 (w.heap.size + 1 + 1) 1 (by omega)).trans p6; have hsz6 : w.heap.size + 1 + 1 < w6.heap.size := (by have := hb6.size; omega); clear hown hb6 hl6 hbc6 p0 p1 p2 p3 p4 p5 p6))
  go_wp2_with fail
  have hbel := (HB6.out.setCell (p := ⟨w.heap.size + 1 + 1, 0, none⟩) (by simp; omega) (.slice A5 4 c5)).setCell (p := ⟨w.heap.size + 1 + 1, 1, none⟩) (by simp; omega) (.slice A6 4 c6)
  have hgo4 : ∀ g, some (w.heap.size + 1 + 1) = some g → g < w4.heap.size := fun g e => by injection e with e; omega
  have hgo5 : ∀ g, some (w.heap.size + 1 + 1) = some g → g < w5.heap.size := fun g e => by injection e with e; omega
  exact bodyPost_ret (v := .tuple #[.agg #[.slice A5 4 c5, .slice A6 4 c6], .bool true]) (by simp [results, Try.results57, go_sem, o3, o4]) rfl ⟨A5, c5, A6, c6, ⟨((HL56.out.grown (set_grown _ _ _ _) hgo4).grown (set_grown _ _ _ _) hgo4).low (by omega), ((HL6.out.grown (set_grown _ _ _ _) hgo5).grown (set_grown _ _ _ _) hgo5).low (by omega), hc5, hm5, hc6, hm6⟩, hbel, rfl⟩

end Go.Proofs.Ytgnhanbdfohjaaa
