/-
  Plain laws on refs of shards: refs are those that the committed transactions leave, one behind the other. And RefsApply's answer, read. Condition: at most four refs.
-/
import Derived.Test.YtgnhanbdfohjaaaLawS
namespace Go.Proofs.Ytgnhanbdfohjaaa
set_option linter.unusedVariables false
set_option linter.unusedSimpArgs false
open Go.RowKit

def isPrep (t : Int) (r : Rec) : Bool := decide (r.txn = t) && decide (r.kind = 1)
theorem prepU_eq (rs : List Rec) (t : Int) : prepU rs t = match rs.find? (isPrep t) with | some r => r.us | none => [] := rfl
/-- refs behind transactions, one behind the other -/
def foldP (rs : List Rec) (ts : List Int) : List Int := ts.foldl (fun R t => setR R (prepU rs t)) st0.refs
theorem foldP_snoc (rs : List Rec) (ts : List Int) (t : Int) : foldP rs (ts ++ [t]) = setR (foldP rs ts) (prepU rs t) := by
  unfold foldP; rw [List.foldl_append]; rfl
theorem foldP_congr {rs rs' : List Rec} {ts : List Int} (h : ∀ t ∈ ts, prepU rs t = prepU rs' t) : foldP rs ts = foldP rs' ts := by
  induction ts using snoc_ind with
  | nil => rfl
  | snoc ts t ih =>
    rw [foldP_snoc, foldP_snoc, ih (fun x hx => h x (by simp [hx])), h t (by simp)]
theorem ask_zero_com {rs : List Rec} {s : St} (h : Hist rs s) {t : Int} (ha : askK rs t = 0) : t ∉ comL rs := fun hm => by
  have := (com_ask h t).1 hm; omega
theorem refs_fold {rs : List Rec} {s : St} (h : Hist rs s) : s.refs = foldP rs (comL rs) ∧ ∀ (pre post : List Int) (t : Int), comL rs = pre ++ t :: post → applyB (foldP rs pre) (prepU rs t) = true := by
  induction h with
  | nil =>
    refine ⟨rfl, fun pre post t h => ?_⟩
    have h' : ([] : List Int) = pre ++ t :: post := h
    simp at h'
  | @snoc rs s r h1 h2 ih =>
    have I := h1.inv
    obtain ⟨htx, hcase⟩ := (stepB_iff rs s r).1 h2
    by_cases hk2 : r.kind = 2
    · have hp : ∀ t, prepU (rs ++ [r]) t = prepU rs t := fun t => prepU_snoc_ne (.inr (by omega))
      have hf : ∀ ts, foldP (rs ++ [r]) ts = foldP rs ts := fun ts => foldP_congr fun t _ => hp t
      have ha : askK rs r.txn = 1 := by
        rcases hcase with ⟨hk, -⟩ | ⟨-, ha, -⟩ | ⟨hk, -⟩
        · omega
        · exact ha
        · omega
      have hst : (stepS rs s r).refs = setR s.refs (prepU rs r.txn) := by unfold stepS; rw [if_neg (by omega), if_pos hk2]
      have hap : applyB s.refs (prepU rs r.txn) = true := by
        obtain ⟨q, hq, hqk⟩ := (ask_prep h1).1 ha
        have hP := I.prep _ q hq hqk
        have hqu : updsB q.us = true := by
          rcases (I.rec_ q (lastRc_mem hq).1).2 with h | h
          · exact h.2
          · omega
        unfold applyB; rw [hP.1, I.refs, hqu, hP.2]; rfl
      rw [comL_snoc, if_pos hk2]
      refine ⟨by rw [hst, hf, foldP_snoc, ← ih.1], fun pre post t he => ?_⟩
      rw [hf, hp]
      rcases hpo : post.reverse with _ | ⟨z, zs⟩
      · have hpost : post = [] := by simpa using hpo
        subst hpost
        have he' : comL rs ++ [r.txn] = pre ++ [t] := he
        obtain ⟨e1, e2⟩ := List.append_inj' he' rfl
        injection e2 with e2 _
        subst e1 e2
        rw [← ih.1]; exact hap
      · have hpost : post = zs.reverse ++ [z] := by rw [← List.reverse_reverse post, hpo, List.reverse_cons]
        rw [hpost] at he
        have he' : comL rs ++ [r.txn] = (pre ++ t :: zs.reverse) ++ [z] := by rw [he]; simp
        obtain ⟨e1, -⟩ := List.append_inj' he' rfl
        exact ih.2 pre zs.reverse t e1
    · rw [comL_snoc, if_neg hk2]
      have hst : (stepS rs s r).refs = s.refs := by
        unfold stepS
        by_cases hk1 : r.kind = 1
        · rw [if_pos hk1]
        · rw [if_neg hk1, if_neg hk2]
      have hp : ∀ t ∈ comL rs, prepU (rs ++ [r]) t = prepU rs t := fun t ht => by
        by_cases hk1 : r.kind = 1
        · refine prepU_snoc_ne (.inl fun e => ?_)
          subst e
          rcases hcase with ⟨-, ha, -⟩ | ⟨hk, -⟩ | ⟨hk, -⟩
          · exact ask_zero_com h1 ha ht
          · omega
          · omega
        · exact prepU_snoc_ne (.inr hk1)
      refine ⟨by rw [hst, ih.1]; exact (foldP_congr hp).symm, fun pre post t he => ?_⟩
      have hsub : ∀ x ∈ pre, x ∈ comL rs := fun x hx => by rw [he]; simp [hx]
      rw [foldP_congr (fun x hx => hp x (hsub x hx)), hp t (by rw [he]; simp)]
      exact ih.2 pre post t he

/-- refs behind the first k records' vote of a transaction -/
def innR (rs : List Rec) (t : Int) (R : List Int) (k : Nat) : List Int := match (rs.take k).find? (isPrep t) with | some r => setR R r.us | none => R
theorem innR_zero (rs : List Rec) (t : Int) (R : List Int) : innR rs t R 0 = R := rfl
theorem innR_all (rs : List Rec) (t : Int) (R : List Int) {n : Nat} (hn : rs.length = n) : innR rs t R n = setR R (prepU rs t) := by
  unfold innR
  rw [List.take_of_length_le (by omega), prepU_eq]
  rcases rs.find? (isPrep t) with _ | r <;> rfl
theorem innR_skip {rs : List Rec} {t : Int} {R : List Int} {k : Nat} (hk : k < rs.length) (h : ¬ (rs[k].txn = t ∧ rs[k].kind = 1)) : innR rs t R (k + 1) = innR rs t R k := by
  unfold innR
  have : isPrep t rs[k] = false := by
    rw [← Bool.not_eq_true]
    intro h'
    unfold isPrep at h'
    simp at h'
    exact h h'
  rw [List.take_succ_eq_append_getElem hk, List.find?_append, List.find?_cons_of_neg (by simp [this])]
  simp
theorem innR_take {rs : List Rec} {s : St} (hH : Hist rs s) {t : Int} {R : List Int} {k : Nat} (hk : k < rs.length) (h1 : rs[k].txn = t) (h2 : rs[k].kind = 1) :
    innR rs t R k = R ∧ innR rs t R (k + 1) = setR R rs[k].us ∧ prepU rs t = rs[k].us := by
  have hv : (recov rs).2 = true := by rw [hH.eq]
  have h5 := recov_take hv (k + 1)
  have h4 := recov_take hv k
  rw [List.take_succ_eq_append_getElem hk, recov_snoc, if_pos h4] at h5
  have hst : stepB (rs.take k) (recov (rs.take k)).1 rs[k] = true := by
    by_cases h : stepB (rs.take k) (recov (rs.take k)).1 rs[k] = true
    · exact h
    · rw [if_neg h] at h5; cases h5
  have ha : askK (rs.take k) t = 0 := by
    rcases ((stepB_iff _ _ _).1 hst).2 with ⟨-, ha, -⟩ | ⟨h, -⟩ | ⟨h, -⟩
    · rw [h1] at ha; exact ha
    · omega
    · omega
  have hnone : lastRc (rs.take k) t = none := by
    rcases hl : lastRc (rs.take k) t with _ | q
    · rfl
    · exfalso
      have I := (hist_of h4).inv
      have := (I.rec_ q (lastRc_mem hl).1).2
      unfold askK at ha; rw [hl] at ha
      have hq : q.kind = 0 := ha
      omega
  have hfn : (rs.take k).find? (isPrep t) = none := by
    rw [List.find?_eq_none]
    intro x hx
    have := lastRc_none hnone x hx
    simp [isPrep, this]
  have hp : isPrep t rs[k] = true := by simp [isPrep, h1, h2]
  have hfs : (rs.take (k + 1)).find? (isPrep t) = some rs[k] := by
    rw [List.take_succ_eq_append_getElem hk, List.find?_append, hfn, List.find?_cons_of_pos hp]; rfl
  refine ⟨by unfold innR; rw [hfn], by unfold innR; rw [hfs], ?_⟩
  rw [prepU_eq]
  have : rs.find? (isPrep t) = some rs[k] := by
    have e : rs.find? (isPrep t) = (rs.take (k + 1) ++ rs.drop (k + 1)).find? (isPrep t) := by rw [List.take_append_drop]
    rw [e, List.find?_append, hfs]; rfl
  rw [this]

theorem abs_at {rs : List RecC} {k : Nat} (h : k < rs.length) : (abs rs)[k]'(by rw [abs_len]; exact h) = rs[k].ab := by unfold abs; rw [List.getElem_map]
/-- an answer of RefsApply, read in new memory -/
theorem implAns4_any (A1 A2 : Option Addr) (n1 c1 n2 c2 : Nat) (xs : List Int) (us : List Upd) (w : World) (lo lo' base : Nat) (hn1 : n1 ≤ 4) (hn2 : n2 ≤ 1000) (hb : base ≤ w.heap.size) (hap : applyB xs us = true)
    (hx : FlH ci w lo A1 n1 xs) (hu : FlH cu w lo' A2 n2 us) :
    Calls Try.prog 31 #[.slice A1 n1 c1, .slice A2 n2 c2] w fun e w' => ∃ (A : Option Addr) (c : Nat), e = .returned (.tuple #[.slice A n1 c, .bool true]) ∧ FlH ci w' base A n1 (setR xs us) ∧ Below w.heap.size w w' :=
  (implApply_any A1 A2 n1 c1 n2 c2 xs us w lo w.heap.size lo' w.heap.size (Nat.le_refl _) (Nat.le_refl _) (by omega) (by omega) hx hu).mono fun e w' ⟨t, v, h1, h2, h3⟩ => by
    rw [applyL_yes hap, setR_len, hx.1] at h1
    obtain ⟨A, c, rfl, -, -, hr⟩ := Rd.of_own h1
    rw [hap] at h3
    exact ⟨A, c, h3, FlH.low ⟨by rw [setR_len]; exact hx.1, hr⟩ hb, h2⟩

end Go.Proofs.Ytgnhanbdfohjaaa
