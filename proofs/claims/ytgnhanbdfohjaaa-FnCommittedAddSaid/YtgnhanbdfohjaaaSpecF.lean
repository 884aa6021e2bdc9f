/-
  The walks of l21Step, l21Recover, ShardValid, ShardAsk, ShardRecover of the reference. Condition: lengths fit an int64.
-/
import Derived.Test.YtgnhanbdfohjaaaSpecE
namespace Go.Proofs.Ytgnhanbdfohjaaa
set_option linter.unusedVariables false
set_option linter.unusedSimpArgs false
open Go.RowKit
attribute [local go_sem ↓] Go.wp_at_zero Go.wp_at_succ

/-- the state behind a record that was tried -/
def nextS (rs : List Rec) (s : St) (r : Rec) : St := if stepB rs s r = true then stepS rs s r else s
theorem nextS_yes {rs : List Rec} {s : St} {r : Rec} (h : stepB rs s r = true) : nextS rs s r = stepS rs s r := by unfold nextS; rw [if_pos h]
theorem nextS_no {rs : List Rec} {s : St} {r : Rec} (h : stepB rs s r = false) : nextS rs s r = s := by unfold nextS; rw [h]; rfl
theorem us_nil {w : World} {lo : Nat} {r : RecC} (h : RecIn w lo r) : r.us = [] ↔ r.n = 0 := by
  rw [← h.1.1]
  exact ⟨fun e => by rw [e]; rfl, fun e => List.eq_nil_of_length_eq_zero e⟩
theorem takeL_st {s : St} {t : Int} {us : List Upd} : (⟨s.refs, takeL s.locks t us⟩ : St) = if lockFit s.locks us = true then ⟨s.refs, lockSet s.locks t us⟩ else s := by
  unfold takeL; split <;> rfl

set_option maxRecDepth 100000 in
theorem l21Step_any (A A1 A2 : Option Addr) (k c c1 c2 : Nat) (rs : List RecC) (s : St) (r : RecC) (w : World) (lo : Nat) (hk : k ≤ 9223372036854775807) (hlo : lo ≤ w.heap.size)
    (h : Recs w lo A k rs) (hs : StIn w lo A1 c1 A2 c2 s) (hr : RecIn w lo r) (hI : Inv (abs rs) s) (ht : txB r.txn = true) :
    Calls Try.prog 57 #[.slice A k c, .agg #[.slice A1 4 c1, .slice A2 4 c2], .agg #[.int .i64 r.kind, .int .i64 r.txn, .slice r.A r.n r.c]] w fun e w' => StRetB (nextS (abs rs) s r.ab) (stepB (abs rs) s r.ab) lo w e w' := by
  have hu0 := us_nil hr
  have hno : stepB (abs rs) s r.ab = false → ∀ e w', StRetB s false lo w e w' → StRetB (nextS (abs rs) s r.ab) (stepB (abs rs) s r.ab) lo w e w' := fun hf e w' h => by rw [nextS_no hf, hf]; exact h
  have hf : ¬ stepB (abs rs) s r.ab = true → stepB (abs rs) s r.ab = false := fun h => by simpa using h
  have hiff := stepB_iff (abs rs) s r.ab
  by_cases h1 : r.kind = 1
  · have h1' : (r.kind == 1) = true := by simpa using h1
    by_cases ha : askK (abs rs) r.txn = 0
    · have ha' : (askK (abs rs) r.txn != 0) = false := by simpa using ha
      rcases hu : updsB r.us with _ | _
      · refine (step_bad A A1 A2 k c c1 c2 rs s r w lo hk hlo h hs hr h1' ha' hu).mono (hno (hf fun hh => ?_))
        rcases (hiff.1 hh).2 with h | h | h
        · have : updsB r.us = true := h.2.2.1
          rw [hu] at this; cases this
        · have : r.kind = 2 := h.1
          omega
        · have : r.kind = 3 := h.1
          omega
      · rcases hft : fitsR s.refs r.us with _ | _
        · refine (step_nofit A A1 A2 k c c1 c2 rs s r w lo hk hlo h hs hr h1' ha' hu hft).mono (hno (hf fun hh => ?_))
          rcases (hiff.1 hh).2 with h | h | h
          · have : fitsR s.refs r.us = true := h.2.2.2.1
            rw [hft] at this; cases this
          · have : r.kind = 2 := h.1
            omega
          · have : r.kind = 3 := h.1
            omega
        · refine (step_vote A A1 A2 k c c1 c2 rs s r w lo hk hlo h hs hr h1' ha' hu hft).mono fun e w' hh => ?_
          rcases hl : lockFit s.locks r.us with _ | _
          · rw [takeL_st, hl] at hh
            refine hno (hf fun h2 => ?_) e w' hh
            rcases (hiff.1 h2).2 with h | h | h
            · have : lockFit s.locks r.us = true := h.2.2.2.2
              rw [hl] at this; cases this
            · have : r.kind = 2 := h.1
              omega
            · have : r.kind = 3 := h.1
              omega
          · rw [takeL_st, hl] at hh
            have hy : stepB (abs rs) s r.ab = true := hiff.2 ⟨ht, .inl ⟨h1, ha, hu, hft, hl⟩⟩
            rw [nextS_yes hy, hy]
            have : stepS (abs rs) s r.ab = ⟨s.refs, lockSet s.locks r.txn r.us⟩ := by unfold stepS; rw [if_pos (show r.ab.kind = 1 from h1)]; rfl
            rw [this]; exact hh
    · refine (step_known A A1 A2 k c c1 c2 rs s r w lo hk hlo h hs hr h1' (by simpa using ha)).mono (hno (hf fun hh => ?_))
      rcases (hiff.1 hh).2 with h | h | h
      · exact ha h.2.1
      · have : r.kind = 2 := h.1
        omega
      · have : r.kind = 3 := h.1
        omega
  · have h1' : (r.kind == 1) = false := by simpa using h1
    by_cases h2 : r.kind = 2
    · have h2' : (r.kind == 2) = true := by simpa using h2
      by_cases ha : askK (abs rs) r.txn = 1
      · have ha' : (askK (abs rs) r.txn != 1) = false := by simpa using ha
        by_cases hu : r.n = 0
        · have hy : stepB (abs rs) s r.ab = true := hiff.2 ⟨ht, .inr (.inl ⟨h2, ha, hu0.2 hu⟩)⟩
          have hran : ∀ u ∈ prepU (abs rs) r.txn, 0 ≤ u.ref ∧ u.ref ≤ 3 := by
            rcases hl : lastRc (abs rs) r.txn with _ | q
            · unfold askK at ha; rw [hl] at ha; exact absurd ha (by decide)
            · have hqk : q.kind = 1 := by unfold askK at ha; rw [hl] at ha; exact ha
              have hP := (hI.prep _ q hl hqk).1
              rcases (hI.rec_ q (lastRc_mem hl).1).2 with hq | hq
              · rw [hP]; exact fun u hm => ((uokB_iff u).1 ((updsB_asc hq.2).1.mem u hm).1).1
              · omega
          refine (step_commit A A1 A2 k c c1 c2 rs s r w lo hk hlo h hs hr h1' h2' ha' hu hran).mono fun e w' hh => ?_
          rw [nextS_yes hy, hy]
          have : stepS (abs rs) s r.ab = ⟨setR s.refs (prepU (abs rs) r.txn), freeL s.locks r.txn⟩ := by unfold stepS; rw [if_neg (show ¬ r.ab.kind = 1 from h1), if_pos (show r.ab.kind = 2 from h2)]; rfl
          rw [this]; exact hh
        · refine (step_fullcommit A A1 A2 k c c1 c2 rs s r w lo hk hlo h hs hr h1' h2' ha' (by omega)).mono (hno (hf fun hh => ?_))
          rcases (hiff.1 hh).2 with h | h | h
          · exact h1 h.1
          · exact hu (hu0.1 h.2.2)
          · exact hu (hu0.1 h.2.2)
      · refine (step_nocommit A A1 A2 k c c1 c2 rs s r w lo hk hlo h hs hr h1' h2' (by simpa using ha)).mono (hno (hf fun hh => ?_))
        rcases (hiff.1 hh).2 with h | h | h
        · exact h1 h.1
        · exact ha h.2.1
        · have : r.kind = 3 := h.1
          omega
    · have h2' : (r.kind == 2) = false := by simpa using h2
      by_cases h3 : r.kind = 3
      · have h3' : (r.kind == 3) = true := by simpa using h3
        by_cases ha : askK (abs rs) r.txn = 0 ∨ askK (abs rs) r.txn = 1
        · have ha' : (askK (abs rs) r.txn != 0) = false ∨ ((askK (abs rs) r.txn != 0) = true ∧ (askK (abs rs) r.txn != 1) = false) := by
            rcases ha with ha | ha
            · exact .inl (by simpa using ha)
            · exact .inr ⟨by simp [ha], by simpa using ha⟩
          by_cases hu : r.n = 0
          · have hy : stepB (abs rs) s r.ab = true := hiff.2 ⟨ht, .inr (.inr ⟨h3, ha, hu0.2 hu⟩)⟩
            refine (step_abort A A1 A2 k c c1 c2 rs s r w lo hk hlo h hs hr h1' h2' h3' ha' hu).mono fun e w' hh => ?_
            rw [nextS_yes hy, hy]
            have : stepS (abs rs) s r.ab = ⟨s.refs, freeL s.locks r.txn⟩ := by unfold stepS; rw [if_neg (show ¬ r.ab.kind = 1 from h1), if_neg (show ¬ r.ab.kind = 2 from h2)]; rfl
            rw [this]; exact hh
          · refine (step_fullabort A A1 A2 k c c1 c2 rs s r w lo hk hlo h hs hr h1' h2' h3' ha' (by omega)).mono (hno (hf fun hh => ?_))
            rcases (hiff.1 hh).2 with h | h | h
            · exact h1 h.1
            · exact hu (hu0.1 h.2.2)
            · exact hu (hu0.1 h.2.2)
        · refine (step_noabort A A1 A2 k c c1 c2 rs s r w lo hk hlo h hs hr h1' h2' h3' (by simp; exact fun e => ha (.inl e)) (by simp; exact fun e => ha (.inr e))).mono (hno (hf fun hh => ?_))
          rcases (hiff.1 hh).2 with h | h | h
          · exact h1 h.1
          · exact h2 h.1
          · exact ha h.2.1
      · have h3' : (r.kind == 3) = false := by simpa using h3
        refine (step_other A A1 A2 k c c1 c2 rs s r w lo hk hlo h hs hr h1' h2' h3').mono (hno (hf fun hh => ?_))
        rcases (hiff.1 hh).2 with h | h | h
        · exact h1 h.1
        · exact h2 h.1
        · exact h3 h.1

theorem l21Step_yes (A A1 A2 : Option Addr) (k c c1 c2 : Nat) (rs : List RecC) (s : St) (r : RecC) (w : World) (lo : Nat) (hk : k ≤ 9223372036854775807) (hlo : lo ≤ w.heap.size)
    (h : Recs w lo A k rs) (hs : StIn w lo A1 c1 A2 c2 s) (hr : RecIn w lo r) (hI : Inv (abs rs) s) (ht : txB r.txn = true) (hy : stepB (abs rs) s r.ab = true) :
    Calls Try.prog 57 #[.slice A k c, .agg #[.slice A1 4 c1, .slice A2 4 c2], .agg #[.int .i64 r.kind, .int .i64 r.txn, .slice r.A r.n r.c]] w fun e w' => StRetB (stepS (abs rs) s r.ab) true lo w e w' :=
  (l21Step_any A A1 A2 k c c1 c2 rs s r w lo hk hlo h hs hr hI ht).mono fun e w' hh => by rwa [nextS_yes hy, hy] at hh
theorem l21Step_no (A A1 A2 : Option Addr) (k c c1 c2 : Nat) (rs : List RecC) (s : St) (r : RecC) (w : World) (lo : Nat) (hk : k ≤ 9223372036854775807) (hlo : lo ≤ w.heap.size)
    (h : Recs w lo A k rs) (hs : StIn w lo A1 c1 A2 c2 s) (hr : RecIn w lo r) (hI : Inv (abs rs) s) (ht : txB r.txn = true) (hy : stepB (abs rs) s r.ab = false) :
    Calls Try.prog 57 #[.slice A k c, .agg #[.slice A1 4 c1, .slice A2 4 c2], .agg #[.int .i64 r.kind, .int .i64 r.txn, .slice r.A r.n r.c]] w fun e w' => StRetB s false lo w e w' :=
  (l21Step_any A A1 A2 k c c1 c2 rs s r w lo hk hlo h hs hr hI ht).mono fun e w' hh => by rwa [nextS_no hy, hy] at hh

end Go.Proofs.Ytgnhanbdfohjaaa
