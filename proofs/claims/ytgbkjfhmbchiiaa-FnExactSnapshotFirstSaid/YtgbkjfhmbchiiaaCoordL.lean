/-
  Plain laws on coordinators: the order of the committed ones, told by sorting or by counting; the place of a transaction. No program in sight.
-/
import Derived.Test.YtgbkjfhmbchiiaaCoordP
import Derived.Test.YtgbkjfhmbchiiaaIdx
namespace Go.Proofs.Ytgbkjfhmbchiiaa
set_option linter.unusedVariables false
set_option linter.unusedSimpArgs false
open Go.RowKit

def leI2 (x y : Int) : Bool := decide (x ≤ y)
theorem leI2_tr (a b c : Int) (h1 : leI2 a b = true) (h2 : leI2 b c = true) : leI2 a c = true := by simp only [leI2, decide_eq_true_eq] at *; omega
theorem leI2_to (a b : Int) : (leI2 a b || leI2 b a) = true := by simp only [leI2, Bool.or_eq_true, decide_eq_true_eq]; omega
/-- a row that holds all of a row without repeats, and is no longer, is a permutation of it -/
theorem perm_of_nodup : ∀ {l m : List Int}, l.Nodup → (∀ x ∈ l, x ∈ m) → m.length = l.length → l.Perm m
  | [], m, _, _, h => by
    rw [List.length_nil] at h
    rw [List.eq_nil_of_length_eq_zero h]
  | a :: l, m, hn, hs, h => by
    have hn' := List.nodup_cons.1 hn
    have ha : a ∈ m := hs a List.mem_cons_self
    have hp := List.perm_cons_erase ha
    refine List.Perm.trans (List.Perm.cons a (perm_of_nodup hn'.2 (fun x hx => ?_) ?_)) hp.symm
    · have hne : x ≠ a := fun e => hn'.1 (by rw [← e]; exact hx)
      exact (List.mem_erase_of_ne hne).2 (hs x (List.mem_cons_of_mem _ hx))
    · have := hp.length_eq
      simp only [List.length_cons] at this h
      omega
theorem comms_mem {ts : List TxnD} {x : Int} : x ∈ comms ts ↔ ∃ k : Nat, k < ts.length ∧ x = (k : Int) ∧ comAt ts k = true := by
  unfold comms
  simp only [List.mem_map, List.mem_filter, List.mem_range]
  constructor
  · rintro ⟨k, ⟨h1, h2⟩, h3⟩; exact ⟨k, h1, h3.symm, h2⟩
  · rintro ⟨k, h1, h2, h3⟩; exact ⟨k, ⟨h1, h3⟩, h2.symm⟩
theorem comms_lt (ts : List TxnD) : (comms ts).Pairwise (fun x y => x < y) := by
  unfold comms
  rw [List.pairwise_map]
  exact (List.Pairwise.imp (fun h => by omega) (List.Pairwise.filter _ List.pairwise_lt_range))
theorem comms_nodup (ts : List TxnD) : (comms ts).Nodup := (comms_lt ts).imp (fun h => by omega)
theorem comms_sorted (ts : List TxnD) : (comms ts).Pairwise (fun x y => leI2 x y = true) := (comms_lt ts).imp (fun h => by simp only [leI2, decide_eq_true_eq]; omega)
theorem comms_len (ts : List TxnD) : (comms ts).length ≤ ts.length := by
  unfold comms
  rw [List.length_map]
  have := List.length_filter_le (comAt ts) (List.range ts.length)
  rwa [List.length_range] at this
theorem sorted_perm {l : List Int} {ts : List TxnD} : l.mergeSort (fun x y => decide (x ≤ y)) = comms ts ↔ l.Perm (comms ts) := by
  constructor
  · intro h
    have := List.mergeSort_perm l (fun x y => decide (x ≤ y))
    rw [h] at this
    exact this.symm
  · intro h
    refine List.Perm.eq_of_pairwise (le := fun a b => leI2 a b = true) (fun a b _ _ h1 h2 => ?_) (List.pairwise_mergeSort leI2_tr leI2_to l) (comms_sorted ts) ((List.mergeSort_perm l _).trans h)
    simp only [leI2, decide_eq_true_eq] at h1 h2
    omega
/-- transaction k stands in the order just where it is committed -/
def hasAt (c : CoordD) (k : Nat) : Bool := comAt c.txns k == hasB (k : Int) c.order
theorem order_iff (c : CoordD) : c.order.mergeSort (fun x y => decide (x ≤ y)) = comms c.txns ↔ ((∀ k, k < c.txns.length → hasAt c k = true) ∧ c.order.length = (comms c.txns).length) := by
  rw [sorted_perm]
  constructor
  · intro h
    refine ⟨fun k hk => ?_, h.length_eq⟩
    unfold hasAt
    rw [beq_iff_eq, Bool.eq_iff_iff, hasB, decide_eq_true_eq, h.mem_iff, comms_mem]
    constructor
    · intro g; exact ⟨k, hk, rfl, g⟩
    · rintro ⟨j, -, e, g⟩
      obtain rfl : k = j := by omega
      exact g
  · rintro ⟨h1, h2⟩
    refine (perm_of_nodup (comms_nodup _) (fun x hx => ?_) h2).symm
    obtain ⟨k, hk, rfl, g⟩ := comms_mem.1 hx
    have := h1 k hk
    unfold hasAt at this
    rw [beq_iff_eq, g] at this
    exact of_decide_eq_true this.symm
/-- what the reference asks of transaction k -/
def okAt (c : CoordD) (k : Nat) : Bool := txnB (c.txns.getD k ⟨[], [], 0⟩) && hasAt c k
theorem all_txn (c : CoordD) : c.txns.all txnB = true ↔ ∀ k, k < c.txns.length → txnB (c.txns.getD k ⟨[], [], 0⟩) = true := by
  rw [List.all_eq_true]
  constructor
  · intro h k hk
    rw [List.getD_eq_getElem?_getD, List.getElem?_eq_getElem hk]
    exact h _ (List.getElem_mem hk)
  · intro h x hx
    obtain ⟨k, hk, rfl⟩ := List.getElem_of_mem hx
    have := h k hk
    rwa [List.getD_eq_getElem?_getD, List.getElem?_eq_getElem hk] at this
theorem coordB_iff (c : CoordD) : coordB c = (allTo (okAt c) c.txns.length && decide (c.txns.length ≤ 12) && decide (c.order.length = (comms c.txns).length)) := by
  unfold coordB
  rw [Bool.eq_iff_iff]
  simp only [Bool.and_eq_true, decide_eq_true_eq, order_iff, all_txn, allTo_iff, okAt]
  constructor
  · rintro ⟨⟨h1, h2⟩, h3, h4⟩; exact ⟨⟨fun k hk => ⟨h1 k hk, h3 k hk⟩, h2⟩, h4⟩
  · rintro ⟨⟨h1, h2⟩, h4⟩; exact ⟨⟨fun k hk => (h1 k hk).1, h2⟩, fun k hk => (h1 k hk).2, h4⟩
theorem coordB_no {c : CoordD} {k : Nat} (hk : k < c.txns.length) (h : okAt c k = false) : coordB c = false := by rw [coordB_iff, allTo_no hk h]; rfl
theorem coordB_no1 {c : CoordD} {k : Nat} (hk : k < c.txns.length) (h : txnB c.txns[k] = false) : coordB c = false := coordB_no hk (by
  unfold okAt; rw [List.getD_eq_getElem?_getD, List.getElem?_eq_getElem hk]; show (txnB c.txns[k] && _) = false; rw [h]; rfl)
theorem coordB_all {c : CoordD} (h : coordB c = true) : ∀ k, k < c.txns.length → txnB (c.txns.getD k ⟨[], [], 0⟩) = true ∧ hasAt c k = true := by
  intro k hk
  rw [coordB_iff] at h
  simp only [Bool.and_eq_true, allTo_iff, okAt] at h
  exact h.1.1 k hk
theorem coordB_len {c : CoordD} (h : coordB c = true) : c.txns.length ≤ 12 ∧ c.order.length ≤ 12 := by
  rw [coordB_iff] at h
  simp only [Bool.and_eq_true, decide_eq_true_eq] at h
  have := comms_len c.txns
  omega
theorem comms_to (ts : List TxnD) : comms ts = commTo ts ts.length := rfl
theorem commTo_len (ts : List TxnD) (k : Nat) : (commTo ts k).length ≤ k := by
  unfold commTo
  rw [List.length_map]
  have := List.length_filter_le (comAt ts) (List.range k)
  rwa [List.length_range] at this
/-- the numbers in the order are those of transactions -/
theorem coordB_order {c : CoordD} (h : coordB c = true) {x : Int} (hx : x ∈ c.order) : ∃ k : Nat, k < c.txns.length ∧ x = (k : Int) ∧ comAt c.txns k = true := by
  have h2 : c.order.mergeSort (fun x y => decide (x ≤ y)) = comms c.txns := by
    unfold coordB at h
    simp only [Bool.and_eq_true, decide_eq_true_eq] at h
    exact h.2
  exact comms_mem.1 ((sorted_perm.1 h2).mem_iff.1 hx)
theorem comAt_get {ts : List TxnD} {k : Nat} (h : k < ts.length) : comAt ts k = decide (ts[k].dec = 2) := by
  unfold comAt; rw [List.getD_eq_getElem?_getD, List.getElem?_eq_getElem h]; rfl

/-- the place of a transaction, counted from 1, or -1 -/
def firstL (c : CoordD) (txn : Int) : Int := if coordB c = true ∧ 0 ≤ idxI txn c.order then idxI txn c.order + 1 else -1
theorem firstL_bad {c : CoordD} {txn : Int} (h : coordB c = false) : firstL c txn = -1 := by unfold firstL; rw [if_neg (by rw [h]; simp)]
theorem firstL_none {c : CoordD} {txn : Int} (h : idxI txn c.order < 0) : firstL c txn = -1 := by unfold firstL; rw [if_neg (by omega)]
theorem firstL_at {c : CoordD} {txn : Int} (h : coordB c = true) (h2 : 0 ≤ idxI txn c.order) : firstL c txn = idxI txn c.order + 1 := by unfold firstL; rw [if_pos ⟨h, h2⟩]
theorem idxI_lt (x : Int) (xs : List Int) : -1 ≤ idxI x xs ∧ idxI x xs < xs.length := by
  unfold idxI
  by_cases h : x ∈ xs
  · rw [if_pos h]
    have := List.idxOf_lt_length_iff.2 h
    omega
  · rw [if_neg h]; omega

end Go.Proofs.Ytgbkjfhmbchiiaa
