/-
  What parts, transactions and coordinators are, in plain Lean: which are valid. No program in sight.
-/
import Derived.Test.YtgbkjfhmbchiiaaRefsP
namespace Go.Proofs.Ytgbkjfhmbchiiaa
set_option linter.unusedVariables false
set_option linter.unusedSimpArgs false
open Go.RowKit

structure PartD where
  shard : Int
  us : List Upd
structure TxnD where
  parts : List PartD
  votes : List Int
  dec : Int
structure CoordD where
  txns : List TxnD
  order : List Int

/-- 'for all k below n' -/
def allTo (p : Nat → Bool) : Nat → Bool
  | 0 => true
  | n + 1 => allTo p n && p n
theorem allTo_iff (p : Nat → Bool) (n : Nat) : allTo p n = true ↔ ∀ k, k < n → p k = true := by
  induction n with
  | zero => simp [allTo]
  | succ n ih =>
    simp only [allTo, Bool.and_eq_true, ih]
    constructor
    · rintro ⟨h1, h2⟩ k hk
      rcases Nat.lt_or_ge k n with h | h
      · exact h1 k h
      · obtain rfl : k = n := by omega
        exact h2
    · intro h
      exact ⟨fun k hk => h k (by omega), h n (by omega)⟩
theorem allTo_no {p : Nat → Bool} {n k : Nat} (hk : k < n) (h : p k = false) : allTo p n = false := by
  rw [← Bool.not_eq_true, allTo_iff]
  intro hh
  rw [hh k hk] at h; cases h
theorem allTo_succ {p : Nat → Bool} {k : Nat} (h : allTo p k = true) (h2 : p k = true) : allTo p (k + 1) = true := by rw [allTo, h, h2]; rfl

/-- part k, behind the one ahead of it -/
def partAt (ps : List PartD) (k : Nat) : Bool :=
  inR (ps.getD k ⟨0, []⟩).shard 0 2 && updsB (ps.getD k ⟨0, []⟩).us && (decide (k = 0) || decide ((ps.getD (k - 1) ⟨0, []⟩).shard < (ps.getD k ⟨0, []⟩).shard))
def partsB (ps : List PartD) : Bool := allTo (partAt ps) ps.length && decide (0 < ps.length)
theorem part_at {ps : List PartD} {k : Nat} (h : k < ps.length) : partAt ps k = (inR ps[k].shard 0 2 && updsB ps[k].us && (decide (k = 0) || decide ((ps.getD (k - 1) ⟨0, []⟩).shard < ps[k].shard))) := by
  unfold partAt
  rw [List.getD_eq_getElem?_getD, List.getElem?_eq_getElem h]; rfl
theorem partsB_and {ps : List PartD} (h : partsB ps = true) : (∀ k, k < ps.length → partAt ps k = true) ∧ 0 < ps.length := by
  unfold partsB at h
  simp only [Bool.and_eq_true, decide_eq_true_eq] at h
  exact ⟨(allTo_iff _ _).1 h.1, h.2⟩
theorem partsB_asc {ps : List PartD} (h : partsB ps = true) : ∀ k, k < ps.length → (k : Int) ≤ (ps.getD k ⟨0, []⟩).shard ∧ (ps.getD k ⟨0, []⟩).shard ≤ 2 := by
  intro k
  induction k with
  | zero =>
    intro hk
    have := (partsB_and h).1 0 hk
    unfold partAt at this
    simp only [Bool.and_eq_true, inR_iff] at this
    omega
  | succ k ih =>
    intro hk
    have h1 := (partsB_and h).1 (k + 1) hk
    have h2 := ih (by omega)
    unfold partAt at h1
    simp only [Bool.and_eq_true, Bool.or_eq_true, decide_eq_true_eq, inR_iff, Nat.add_sub_cancel] at h1
    omega
/-- valid parts are at most three -/
theorem partsB_len {ps : List PartD} (h : partsB ps = true) : ps.length ≤ 3 := by
  rcases Nat.lt_or_ge 3 ps.length with hl | hl
  · have := partsB_asc h 3 hl; omega
  · exact hl

/-- a vote -/
def voteB (v : Int) : Bool := inR v (-1) 1
def cnt1 (v : Int) (vs : List Int) : Nat := vs.countP (fun x => decide (x = v))
/-- the decision fits the votes -/
def decB (d : Int) (vs : List Int) : Bool :=
  if d = 2 then decide (cnt1 1 vs = vs.length) else if d = 3 then decide (cnt1 1 vs < vs.length) else if d = 0 then decide (cnt1 (-1) vs = 0) && decide (cnt1 1 vs < vs.length) else false
def txnB (t : TxnD) : Bool := partsB t.parts && decide (t.votes.length = t.parts.length) && t.votes.all voteB && decB t.dec t.votes
theorem txnB_and {t : TxnD} (h : txnB t = true) : partsB t.parts = true ∧ t.votes.length = t.parts.length ∧ t.votes.all voteB = true ∧ decB t.dec t.votes = true := by
  unfold txnB at h
  simp only [Bool.and_eq_true, decide_eq_true_eq] at h
  exact ⟨h.1.1.1, h.1.1.2, h.1.2, h.2⟩
theorem cnt_sum (vs : List Int) : cnt1 1 vs + cnt1 (-1) vs + cnt1 0 vs ≤ vs.length ∧ (cnt1 1 vs + cnt1 (-1) vs + cnt1 0 vs = vs.length ↔ vs.all voteB = true) := by
  induction vs with
  | nil => simp [cnt1]
  | cons v vs ih =>
    obtain ⟨h1, h2⟩ := ih
    unfold cnt1 at h1 h2 ⊢
    simp only [List.countP_cons, List.length_cons, List.all_cons, Bool.and_eq_true, voteB, inR_iff, decide_eq_true_eq]
    have key : (if v = 1 then 1 else 0) + (if v = -1 then 1 else 0) + (if v = 0 then (1 : Nat) else 0) = (if -1 ≤ v ∧ v ≤ 1 then 1 else 0) := by
      by_cases a : v = 1
      · subst a; simp
      · by_cases b : v = -1
        · subst b; simp
        · by_cases c : v = 0
          · subst c; simp
          · rw [if_neg a, if_neg b, if_neg c, if_neg (by omega)]
    by_cases hv : -1 ≤ v ∧ v ≤ 1
    · rw [if_pos hv] at key
      refine ⟨by omega, ?_⟩
      rw [← h2]
      constructor
      · intro h; exact ⟨hv, by omega⟩
      · rintro ⟨-, h⟩; omega
    · rw [if_neg hv] at key
      refine ⟨by omega, ?_⟩
      constructor
      · intro h; omega
      · rintro ⟨h, -⟩; exact absurd h hv

/-- transaction k is committed -/
def comAt (ts : List TxnD) (k : Nat) : Bool := decide ((ts.getD k ⟨[], [], 0⟩).dec = 2)
/-- the numbers of the committed transactions -/
def comms (ts : List TxnD) : List Int := ((List.range ts.length).filter (comAt ts)).map fun (k : Nat) => (k : Int)
def commTo (ts : List TxnD) (k : Nat) : List Int := ((List.range k).filter (comAt ts)).map fun (k : Nat) => (k : Int)
theorem commTo_succ (ts : List TxnD) (k : Nat) : commTo ts (k + 1) = if comAt ts k = true then commTo ts k ++ [(k : Int)] else commTo ts k := by
  unfold commTo
  rw [List.range_succ, List.filter_append, List.map_append]
  by_cases h : comAt ts k = true
  · rw [if_pos h]; simp [h]
  · rw [if_neg h]; simp [h]
/-- a coordinator is valid: the order is a row of the committed ones, in any order -/
def coordB (c : CoordD) : Bool := c.txns.all txnB && decide (c.txns.length ≤ 12) && decide (c.order.mergeSort (fun x y => decide (x ≤ y)) = comms c.txns)

end Go.Proofs.Ytgbkjfhmbchiiaa
