/-
  history.add of the program in one contract: a record is added just where it may follow. Condition: the records before may follow on one another; no vote meets a locked ref.
-/
import Derived.Test.YtgnhanbdfohjaaaImplH
import Derived.Test.YtgnhanbdfohjaaaSpecF
namespace Go.Proofs.Ytgnhanbdfohjaaa
set_option linter.unusedVariables false
set_option linter.unusedSimpArgs false
open Go.RowKit

/-- no vote that would fit otherwise meets a locked ref -/
def CalmAt (rs : List Rec) (s : St) (r : Rec) : Prop := r.kind = 1 → askK rs r.txn = 0 → updsB r.us = true → fitsR s.refs r.us = true → lockFit s.locks r.us = true
/-- a record's updates lie below base -/
def RecB (w : World) (lo hi : Nat) (r : RecC) : Prop := Fl cu w lo hi r.A r.n r.us ∧ r.n ≤ 9223372036854775807
theorem RecB.nil {w : World} {lo hi : Nat} {r : RecC} (h : RecB w lo hi r) : r.us = [] ↔ r.n = 0 := by
  rw [← h.1.1]
  exact ⟨fun e => by rw [e]; rfl, fun e => List.eq_nil_of_length_eq_zero e⟩

theorem lastC_none_iff (done : List RecC) (t : Int) {s : St} (hI : Inv (abs done) s) : lastC done t = none ↔ askK (abs done) t = 0 := by
  have e := lastC_abs done t
  unfold askK
  rw [← e]
  rcases hq : lastC done t with _ | q
  · exact ⟨fun _ => rfl, fun _ => rfl⟩
  · refine ⟨fun h => (by cases h), fun h => ?_⟩
    exfalso
    rw [hq] at e
    have hm := lastRc_mem e.symm
    have := hI.rec_ _ hm.1
    have hk : q.ab.kind = 0 := h
    omega
theorem lastC_kind (done : List RecC) (t : Int) {q : RecC} (hq : lastC done t = some q) : askK (abs done) t = q.kind := by
  have e := lastC_abs done t
  unfold askK
  rw [← e, hq]; rfl

theorem stepB_tx' {rs : List Rec} {s : St} {r : RecC} (h : txB r.txn = false) : stepB rs s r.ab = false := by unfold stepB; rw [show r.ab.txn = r.txn from rfl, h]; rfl

theorem add_any (base hb n : Nat) (done : List RecC) (s : St) (r : RecC) (w : World) (lo hi : Nat) (hhi : hi ≤ base) (hn : n < maxLen) (h : HistC w base hb n done s) (hI : Inv (abs done) s) (hr : RecB w lo hi r) (hd : ∀ q ∈ done, RecB w lo hi q)
    (hc : CalmAt (abs done) s r.ab) :
    Calls Try.prog 43 #[.pointer (some ⟨hb, 0, none⟩), .agg #[.int .i64 r.kind, .int .i64 r.txn, .slice r.A r.n r.c]] w fun e w' =>
      (stepB (abs done) s r.ab = true ∧ StepYes base hb (n + 1) (done ++ [r]) (stepS (abs done) s r.ab) w e w') ∨ (stepB (abs done) s r.ab = false ∧ StepNo base w e w') := by
  have hsl := ((refsB_iff s.refs).1 hI.refs).1
  have hll := hI.llen
  have hu0 := hr.nil
  have hiff := stepB_iff (abs done) s r.ab
  have hf : ¬ stepB (abs done) s r.ab = true → stepB (abs done) s r.ab = false := fun h => by simpa using h
  rcases ht : txB r.txn with _ | _
  · exact (add_tx base hb n done s r w h ht).mono fun e w' hh => .inr ⟨stepB_tx' ht, hh⟩
  by_cases h1 : r.kind = 1
  · have h1' : (r.kind == 1) = true := by simpa using h1
    have hS : stepS (abs done) s r.ab = ⟨s.refs, lockSet s.locks r.txn r.us⟩ := by unfold stepS; rw [if_pos (show r.ab.kind = 1 from h1)]; rfl
    have hone : stepB (abs done) s r.ab = true → askK (abs done) r.txn = 0 ∧ updsB r.us = true ∧ fitsR s.refs r.us = true ∧ lockFit s.locks r.us = true := fun hh => by
      rcases (hiff.1 hh).2 with h | h | h
      · exact h.2
      · have : r.kind = 2 := h.1
        omega
      · have : r.kind = 3 := h.1
        omega
    rcases hq : lastC done r.txn with _ | q
    · have ha := (lastC_none_iff done r.txn hI).1 hq
      rcases hu : updsB r.us with _ | _
      · exact (add_bad base hb n done s r w h ht hsl hll hr.2 lo hi hhi hr.1 h1' hq hu).mono fun e w' hh => .inr ⟨hf (fun h2 => by have := (hone h2).2.1; rw [hu] at this; cases this), hh⟩
      · rcases hft : fitsR s.refs r.us with _ | _
        · exact (add_nofit base hb n done s r w h ht hsl hll hr.2 lo hi hhi hr.1 h1' hq hu hft).mono fun e w' hh => .inr ⟨hf (fun h2 => by have := (hone h2).2.2.1; rw [hft] at this; cases this), hh⟩
        · have hfree := hc h1 ha hu hft
          refine (add_vote base hb n done s r w h ht hsl hll hr.2 lo hi hhi hr.1 h1' hq hu hft hfree hn).mono fun e w' hh => .inl ⟨hiff.2 ⟨ht, .inl ⟨h1, ha, hu, hft, hfree⟩⟩, ?_⟩
          rw [hS]; exact hh
    · refine (add_known base hb n done s r w h ht hsl hll h1' q hq).mono fun e w' hh => .inr ⟨hf fun h2 => ?_, hh⟩
      have := (lastC_none_iff done r.txn hI).2 (hone h2).1
      rw [hq] at this; cases this
  · have h1' : (r.kind == 1) = false := by simpa using h1
    by_cases h2 : r.kind = 2
    · have h2' : (r.kind == 2) = true := by simpa using h2
      have h3' : (r.kind == 3) = false := by simp; omega
      have hS : stepS (abs done) s r.ab = ⟨setR s.refs (prepU (abs done) r.txn), freeL s.locks r.txn⟩ := by unfold stepS; rw [if_neg (show ¬ r.ab.kind = 1 from h1), if_pos (show r.ab.kind = 2 from h2)]; rfl
      have hone : stepB (abs done) s r.ab = true → askK (abs done) r.txn = 1 ∧ r.us = [] := fun hh => by
        rcases (hiff.1 hh).2 with h | h | h
        · exact absurd h.1 h1
        · exact h.2
        · have : r.kind = 3 := h.1
          omega
      by_cases hu : r.n = 0
      · have hn0 : ((r.n : Int) == 0) = true := by simp [hu]
        rcases hq : lastC done r.txn with _ | q
        · refine (add_commit_none base hb n done s r w h ht hsl hll h1' h2' hn0 hq).mono fun e w' hh => .inr ⟨hf fun h3 => ?_, hh⟩
          have := (lastC_none_iff done r.txn hI).1 hq
          have := (hone h3).1
          omega
        · have hak := lastC_kind done r.txn hq
          by_cases hk : q.kind = 1
          · have hqm := lastC_mem hq
            have hqa : lastRc (abs done) r.txn = some q.ab := by rw [← lastC_abs, hq]; rfl
            have hP := hI.prep r.txn q.ab hqa hk
            have hqu : updsB q.us = true := by
              rcases (hI.rec_ _ (lastRc_mem hqa).1).2 with hx | hx
              · exact hx.2
              · have : q.kind = 2 ∨ q.kind = 3 := hx.1
                omega
            have hran : ∀ u ∈ q.us, 0 ≤ u.ref ∧ u.ref ≤ 3 := fun u hm => ((uokB_iff u).1 ((updsB_asc hqu).1.mem u hm).1).1
            refine (add_commit base hb n done s r w h ht hsl hll h1' h2' hn0 q hq (by simpa using hk) lo hi hhi (hd q hqm.1).2 (hd q hqm.1).1 hran hn).mono fun e w' hh => .inl ⟨hiff.2 ⟨ht, .inr (.inl ⟨h2, by rw [show r.ab.txn = r.txn from rfl, hak]; exact hk, hu0.2 hu⟩)⟩, ?_⟩
            rw [hS, hP.1]; exact hh
          · refine (add_commit_other base hb n done s r w h ht hsl hll h1' h2' hn0 q hq (by simpa using hk)).mono fun e w' hh => .inr ⟨hf fun h3 => ?_, hh⟩
            have := (hone h3).1
            omega
      · have hn0 : ((r.n : Int) == 0) = false := by simpa using hu
        exact (add_fullc base hb n done s r w h ht h1' h2' h3' hn0).mono fun e w' hh => .inr ⟨hf fun h3 => hu (hu0.1 (hone h3).2), hh⟩
    · have h2' : (r.kind == 2) = false := by simpa using h2
      by_cases h3 : r.kind = 3
      · have h3' : (r.kind == 3) = true := by simpa using h3
        have hS : stepS (abs done) s r.ab = ⟨s.refs, freeL s.locks r.txn⟩ := by unfold stepS; rw [if_neg (show ¬ r.ab.kind = 1 from h1), if_neg (show ¬ r.ab.kind = 2 from h2)]; rfl
        have hone : stepB (abs done) s r.ab = true → (askK (abs done) r.txn = 0 ∨ askK (abs done) r.txn = 1) ∧ r.us = [] := fun hh => by
          rcases (hiff.1 hh).2 with h | h | h
          · exact absurd h.1 h1
          · exact absurd h.1 h2
          · exact h.2
        by_cases hu : r.n = 0
        · have hn0 : ((r.n : Int) == 0) = true := by simp [hu]
          rcases hq : lastC done r.txn with _ | q
          · have ha := (lastC_none_iff done r.txn hI).1 hq
            refine (add_abort_none base hb n done s r w h ht hsl hll h1' h2' h3' hn0 hq hn).mono fun e w' hh => .inl ⟨hiff.2 ⟨ht, .inr (.inr ⟨h3, .inl ha, hu0.2 hu⟩)⟩, ?_⟩
            rw [hS]; exact hh
          · have hak := lastC_kind done r.txn hq
            by_cases hk : q.kind = 1
            · refine (add_abort_prep base hb n done s r w h ht hsl hll h1' h2' h3' hn0 q hq (by simpa using hk) hn).mono fun e w' hh => .inl ⟨hiff.2 ⟨ht, .inr (.inr ⟨h3, .inr (by rw [show r.ab.txn = r.txn from rfl, hak]; exact hk), hu0.2 hu⟩)⟩, ?_⟩
              rw [hS]; exact hh
            · refine (add_abort_other base hb n done s r w h ht hsl hll h1' h2' h3' hn0 q hq (by simpa using hk)).mono fun e w' hh => .inr ⟨hf fun h4 => ?_, hh⟩
              rcases (hone h4).1 with h5 | h5
              · have := (lastC_none_iff done r.txn hI).2 h5
                rw [hq] at this; cases this
              · omega
        · have hn0 : ((r.n : Int) == 0) = false := by simpa using hu
          exact (add_fulla base hb n done s r w h ht h1' h2' h3' hn0).mono fun e w' hh => .inr ⟨hf fun h4 => hu (hu0.1 (hone h4).2), hh⟩
      · have h3' : (r.kind == 3) = false := by simpa using h3
        refine (add_odd base hb n done s r w h ht h1' h2' h3').mono fun e w' hh => .inr ⟨hf fun h4 => ?_, hh⟩
        rcases (hiff.1 h4).2 with h | h | h
        · exact h1 h.1
        · exact h2 h.1
        · exact h3 h.1

end Go.Proofs.Ytgnhanbdfohjaaa
