/-
  Plain laws on coordinators: the order of the committed ones, told by sorting or by counting; the place of a transaction. No program in sight.
  Plain laws on refs and updates: what a ref is behind updates, updates twice, undone, in another order, and the differences. No program in sight.
  The refs of a shard behind some transactions of a coordinator, and the shards whose refs differ, in plain Lean. No program in sight.
  Plain words for a slice that is made and then filled, element by element; make's own equation; the law's end. No condition.
-/
import Derived.Test.YtgbkjfhmbchiiaaM1
import Derived.Laws.MakeOwn
import Derived.Laws.OwnMore
import Derived.Deep.AppendLies
namespace Go.Proofs.Ytgbkjfhmbchiiaa
set_option linter.unusedVariables false
set_option linter.unusedSimpArgs false
open Go.RowKit

def leI2 (x y : Int) : Bool := decide (x ≤ y)
theorem leI2_tr (a b c : Int) (h1 : leI2 a b = true) (h2 : leI2 b c = true) : leI2 a c = true := by simp only [leI2, decide_eq_true_eq] at *; omega
theorem leI2_to (a b : Int) : (leI2 a b || leI2 b a) = true := by simp only [leI2, Bool.or_eq_true, decide_eq_true_eq]; omega
/-- a row that holds all of a row without repeats, and is no longer, is a permutation of it -/
theorem perm_of_nodup : ∀ {l m : List Int}, l.Nodup → (∀ x ∈ l, x ∈ m) → m.length = l.length → l.Perm m
  | [], m, _, _, h => by
    rw [List.length_nil] at h
    rw [List.eq_nil_of_length_eq_zero h]
  | a :: l, m, hn, hs, h => by
    have hn' := List.nodup_cons.1 hn
    have ha : a ∈ m := hs a List.mem_cons_self
    have hp := List.perm_cons_erase ha
    refine List.Perm.trans (List.Perm.cons a (perm_of_nodup hn'.2 (fun x hx => ?_) ?_)) hp.symm
    · have hne : x ≠ a := fun e => hn'.1 (by rw [← e]; exact hx)
      exact (List.mem_erase_of_ne hne).2 (hs x (List.mem_cons_of_mem _ hx))
    · have := hp.length_eq
      simp only [List.length_cons] at this h
      omega
theorem comms_mem {ts : List TxnD} {x : Int} : x ∈ comms ts ↔ ∃ k : Nat, k < ts.length ∧ x = (k : Int) ∧ comAt ts k = true := by
  unfold comms
  simp only [List.mem_map, List.mem_filter, List.mem_range]
  constructor
  · rintro ⟨k, ⟨h1, h2⟩, h3⟩; exact ⟨k, h1, h3.symm, h2⟩
  · rintro ⟨k, h1, h2, h3⟩; exact ⟨k, ⟨h1, h3⟩, h2.symm⟩
theorem comms_lt (ts : List TxnD) : (comms ts).Pairwise (fun x y => x < y) := by
  unfold comms
  rw [List.pairwise_map]
  exact (List.Pairwise.imp (fun h => by omega) (List.Pairwise.filter _ List.pairwise_lt_range))
theorem comms_nodup (ts : List TxnD) : (comms ts).Nodup := (comms_lt ts).imp (fun h => by omega)
theorem comms_sorted (ts : List TxnD) : (comms ts).Pairwise (fun x y => leI2 x y = true) := (comms_lt ts).imp (fun h => by simp only [leI2, decide_eq_true_eq]; omega)
theorem comms_len (ts : List TxnD) : (comms ts).length ≤ ts.length := by
  unfold comms
  rw [List.length_map]
  have := List.length_filter_le (comAt ts) (List.range ts.length)
  rwa [List.length_range] at this
theorem sorted_perm {l : List Int} {ts : List TxnD} : l.mergeSort (fun x y => decide (x ≤ y)) = comms ts ↔ l.Perm (comms ts) := by
  constructor
  · intro h
    have := List.mergeSort_perm l (fun x y => decide (x ≤ y))
    rw [h] at this
    exact this.symm
  · intro h
    refine List.Perm.eq_of_pairwise (le := fun a b => leI2 a b = true) (fun a b _ _ h1 h2 => ?_) (List.pairwise_mergeSort leI2_tr leI2_to l) (comms_sorted ts) ((List.mergeSort_perm l _).trans h)
    simp only [leI2, decide_eq_true_eq] at h1 h2
    omega
/-- transaction k stands in the order just where it is committed -/
def hasAt (c : CoordD) (k : Nat) : Bool := comAt c.txns k == hasB (k : Int) c.order
theorem order_iff (c : CoordD) : c.order.mergeSort (fun x y => decide (x ≤ y)) = comms c.txns ↔ ((∀ k, k < c.txns.length → hasAt c k = true) ∧ c.order.length = (comms c.txns).length) := by
  rw [sorted_perm]
  constructor
  · intro h
    refine ⟨fun k hk => ?_, h.length_eq⟩
    unfold hasAt
    rw [beq_iff_eq, Bool.eq_iff_iff, hasB, decide_eq_true_eq, h.mem_iff, comms_mem]
    constructor
    · intro g; exact ⟨k, hk, rfl, g⟩
    · rintro ⟨j, -, e, g⟩
      obtain rfl : k = j := by omega
      exact g
  · rintro ⟨h1, h2⟩
    refine (perm_of_nodup (comms_nodup _) (fun x hx => ?_) h2).symm
    obtain ⟨k, hk, rfl, g⟩ := comms_mem.1 hx
    have := h1 k hk
    unfold hasAt at this
    rw [beq_iff_eq, g] at this
    exact of_decide_eq_true this.symm
/-- what the reference asks of transaction k -/
def okAt (c : CoordD) (k : Nat) : Bool := txnB (c.txns.getD k ⟨[], [], 0⟩) && hasAt c k
theorem all_txn (c : CoordD) : c.txns.all txnB = true ↔ ∀ k, k < c.txns.length → txnB (c.txns.getD k ⟨[], [], 0⟩) = true := by
  rw [List.all_eq_true]
  constructor
  · intro h k hk
    rw [List.getD_eq_getElem?_getD, List.getElem?_eq_getElem hk]
    exact h _ (List.getElem_mem hk)
  · intro h x hx
    obtain ⟨k, hk, rfl⟩ := List.getElem_of_mem hx
    have := h k hk
    rwa [List.getD_eq_getElem?_getD, List.getElem?_eq_getElem hk] at this
theorem coordB_iff (c : CoordD) : coordB c = (allTo (okAt c) c.txns.length && decide (c.txns.length ≤ 12) && decide (c.order.length = (comms c.txns).length)) := by
  unfold coordB
  rw [Bool.eq_iff_iff]
  simp only [Bool.and_eq_true, decide_eq_true_eq, order_iff, all_txn, allTo_iff, okAt]
  constructor
  · rintro ⟨⟨h1, h2⟩, h3, h4⟩; exact ⟨⟨fun k hk => ⟨h1 k hk, h3 k hk⟩, h2⟩, h4⟩
  · rintro ⟨⟨h1, h2⟩, h4⟩; exact ⟨⟨fun k hk => (h1 k hk).1, h2⟩, fun k hk => (h1 k hk).2, h4⟩
theorem coordB_no {c : CoordD} {k : Nat} (hk : k < c.txns.length) (h : okAt c k = false) : coordB c = false := by rw [coordB_iff, allTo_no hk h]; rfl
theorem coordB_no1 {c : CoordD} {k : Nat} (hk : k < c.txns.length) (h : txnB c.txns[k] = false) : coordB c = false := coordB_no hk (by
  unfold okAt; rw [List.getD_eq_getElem?_getD, List.getElem?_eq_getElem hk]; show (txnB c.txns[k] && _) = false; rw [h]; rfl)
theorem coordB_all {c : CoordD} (h : coordB c = true) : ∀ k, k < c.txns.length → txnB (c.txns.getD k ⟨[], [], 0⟩) = true ∧ hasAt c k = true := by
  intro k hk
  rw [coordB_iff] at h
  simp only [Bool.and_eq_true, allTo_iff, okAt] at h
  exact h.1.1 k hk
theorem coordB_len {c : CoordD} (h : coordB c = true) : c.txns.length ≤ 12 ∧ c.order.length ≤ 12 := by
  rw [coordB_iff] at h
  simp only [Bool.and_eq_true, decide_eq_true_eq] at h
  have := comms_len c.txns
  omega
theorem comms_to (ts : List TxnD) : comms ts = commTo ts ts.length := rfl
theorem commTo_len (ts : List TxnD) (k : Nat) : (commTo ts k).length ≤ k := by
  unfold commTo
  rw [List.length_map]
  have := List.length_filter_le (comAt ts) (List.range k)
  rwa [List.length_range] at this
/-- the numbers in the order are those of transactions -/
theorem coordB_order {c : CoordD} (h : coordB c = true) {x : Int} (hx : x ∈ c.order) : ∃ k : Nat, k < c.txns.length ∧ x = (k : Int) ∧ comAt c.txns k = true := by
  have h2 : c.order.mergeSort (fun x y => decide (x ≤ y)) = comms c.txns := by
    unfold coordB at h
    simp only [Bool.and_eq_true, decide_eq_true_eq] at h
    exact h.2
  exact comms_mem.1 ((sorted_perm.1 h2).mem_iff.1 hx)
theorem comAt_get {ts : List TxnD} {k : Nat} (h : k < ts.length) : comAt ts k = decide (ts[k].dec = 2) := by
  unfold comAt; rw [List.getD_eq_getElem?_getD, List.getElem?_eq_getElem h]; rfl

/-- the place of a transaction, counted from 1, or -1 -/
def firstL (c : CoordD) (txn : Int) : Int := if coordB c = true ∧ 0 ≤ idxI txn c.order then idxI txn c.order + 1 else -1
theorem firstL_bad {c : CoordD} {txn : Int} (h : coordB c = false) : firstL c txn = -1 := by unfold firstL; rw [if_neg (by rw [h]; simp)]
theorem firstL_none {c : CoordD} {txn : Int} (h : idxI txn c.order < 0) : firstL c txn = -1 := by unfold firstL; rw [if_neg (by omega)]
theorem firstL_at {c : CoordD} {txn : Int} (h : coordB c = true) (h2 : 0 ≤ idxI txn c.order) : firstL c txn = idxI txn c.order + 1 := by unfold firstL; rw [if_pos ⟨h, h2⟩]
theorem idxI_lt (x : Int) (xs : List Int) : -1 ≤ idxI x xs ∧ idxI x xs < xs.length := by
  unfold idxI
  by_cases h : x ∈ xs
  · rw [if_pos h]
    have := List.idxOf_lt_length_iff.2 h
    omega
  · rw [if_neg h]; omega

end Go.Proofs.Ytgbkjfhmbchiiaa

namespace Go.Proofs.Ytgbkjfhmbchiiaa
set_option linter.unusedVariables false
set_option linter.unusedSimpArgs false
open Go.RowKit

theorem rid_iff (n : Int) : rid n = true ↔ -1 ≤ n ∧ n ≤ 990 := inR_iff _ _ _
theorem uokB_iff (u : Upd) : uokB u = true ↔ (0 ≤ u.ref ∧ u.ref ≤ 3) ∧ rid u.old = true ∧ rid u.new_ = true ∧ u.old ≠ u.new_ := by
  unfold uokB
  simp only [Bool.and_eq_true, inR_iff, Bool.not_eq_true', decide_eq_false_iff_not]
  constructor
  · rintro ⟨⟨⟨h1, h2⟩, h3⟩, h4⟩; exact ⟨h1, h2, h3, h4⟩
  · rintro ⟨h1, h2, h3, h4⟩; exact ⟨⟨⟨h1, h2⟩, h3⟩, h4⟩

/-- every update fits alone, and refs ascend from lo on -/
def Asc : Int → List Upd → Prop
  | _, [] => True
  | lo, u :: us => uokB u = true ∧ lo ≤ u.ref ∧ Asc (u.ref + 1) us
theorem Asc.of_go {us : List Upd} : ∀ {p : Option Int}, updsGo p us = true → Asc (match p with | none => 0 | some q => q + 1) us := by
  induction us with
  | nil => intro p _; trivial
  | cons u us ih =>
    intro p h
    unfold updsGo at h
    simp only [Bool.and_eq_true] at h
    obtain ⟨⟨h1, h2⟩, h3⟩ := h
    refine ⟨h1, ?_, ih h3⟩
    rcases p with _ | q
    · exact ((uokB_iff u).1 h1).1.1
    · simp only [decide_eq_true_eq] at h2; show q + 1 ≤ u.ref; omega
theorem Asc.to_go {us : List Upd} : ∀ {lo : Int}, Asc lo us → ∀ p : Option Int, (∀ q, p = some q → q < lo) → updsGo p us = true := by
  induction us with
  | nil => intro _ _ p _; rfl
  | cons u us ih =>
    intro lo h p hp
    obtain ⟨h1, h2, h3⟩ := h
    unfold updsGo
    simp only [Bool.and_eq_true]
    refine ⟨⟨h1, ?_⟩, ih h3 _ fun q hq => by injection hq with hq; omega⟩
    rcases p with _ | q
    · rfl
    · have := hp q rfl; simp only [decide_eq_true_eq]; omega
theorem updsB_asc {us : List Upd} (h : updsB us = true) : Asc 0 us ∧ us ≠ [] := by
  unfold updsB at h
  simp only [Bool.and_eq_true, decide_eq_true_eq] at h
  exact ⟨Asc.of_go h.1, by intro e; rw [e] at h; simp at h⟩
theorem asc_updsB {us : List Upd} (h : Asc 0 us) (hne : us ≠ []) : updsB us = true := by
  unfold updsB
  simp only [Bool.and_eq_true, decide_eq_true_eq]
  exact ⟨h.to_go none (fun q hq => by cases hq), by rcases us with _ | _ <;> simp at hne ⊢⟩
theorem Asc.mem {us : List Upd} : ∀ {lo : Int}, Asc lo us → ∀ u ∈ us, uokB u = true ∧ lo ≤ u.ref := by
  induction us with
  | nil => intro _ _ u hu; cases hu
  | cons v us ih =>
    intro lo h u hu
    obtain ⟨h1, h2, h3⟩ := h
    rcases List.mem_cons.1 hu with rfl | hu
    · exact ⟨h1, h2⟩
    · have := ih h3 u hu; exact ⟨this.1, by omega⟩

/-- the update of a ref, if there is one -/
def look (us : List Upd) (r : Int) : Option Upd := us.find? fun u => decide (u.ref = r)
theorem look_none {us : List Upd} {lo r : Int} (h : Asc lo us) (hr : r < lo) : look us r = none := by
  unfold look
  rw [List.find?_eq_none]
  intro u hu
  have := (h.mem u hu).2
  simp only [decide_eq_true_eq]; omega
theorem look_mem {us : List Upd} {lo : Int} (h : Asc lo us) {u : Upd} (hu : u ∈ us) : look us u.ref = some u := by
  induction us generalizing lo with
  | nil => cases hu
  | cons v us ih =>
    obtain ⟨h1, h2, h3⟩ := h
    rcases List.mem_cons.1 hu with rfl | hu
    · unfold look; rw [List.find?_cons_of_pos (by simp)]
    · have := (h3.mem u hu).2
      unfold look
      rw [List.find?_cons_of_neg (by simp; omega)]
      exact ih h3 hu
theorem look_some {us : List Upd} {r : Int} {u : Upd} (h : look us r = some u) : u ∈ us ∧ u.ref = r := by
  unfold look at h
  exact ⟨List.mem_of_find?_eq_some h, by simpa using List.find?_some h⟩

theorem setR_len (us : List Upd) : ∀ xs : List Int, (setR xs us).length = xs.length := by
  unfold setR
  induction us with
  | nil => intro xs; rfl
  | cons u us ih => intro xs; rw [List.foldl_cons, ih, List.length_set]
theorem getR_set {xs : List Int} {r s : Int} (x : Int) (hr : 0 ≤ r) (hs : 0 ≤ s) (hl : s.toNat < xs.length) : getR (xs.set s.toNat x) r = if s = r then x else getR xs r := by
  unfold getR
  rw [List.getD_eq_getElem?_getD, List.getElem?_set]
  by_cases h : s = r
  · subst h; rw [if_pos rfl, if_pos hl, if_pos rfl]; rfl
  · rw [if_neg (by omega), if_neg h, List.getD_eq_getElem?_getD]
theorem getR_setR {us : List Upd} : ∀ {lo : Int} {xs : List Int} {r : Int}, Asc lo us → 0 ≤ lo → xs.length = 4 → 0 ≤ r → getR (setR xs us) r = match look us r with | some u => u.new_ | none => getR xs r := by
  induction us with
  | nil => intro lo xs r _ _ _ _; rfl
  | cons v us ih =>
    intro lo xs r h h0 hl hr
    obtain ⟨h1, h2, h3⟩ := h
    have hv := ((uokB_iff v).1 h1).1
    have e : setR xs (v :: us) = setR (xs.set v.ref.toNat v.new_) us := rfl
    rw [e, ih h3 (by omega) (by rw [List.length_set]; exact hl) hr, getR_set _ hr hv.1 (by omega)]
    by_cases hrv : v.ref = r
    · rw [look_none h3 (by omega), if_pos hrv]
      unfold look; rw [List.find?_cons_of_pos (by simp [hrv])]
    · rw [if_neg hrv]
      have : look (v :: us) r = look us r := by unfold look; rw [List.find?_cons_of_neg (by simp [hrv])]
      rw [this]
theorem list4 {xs ys : List Int} (hx : xs.length = 4) (hy : ys.length = 4) (h : ∀ r : Int, 0 ≤ r → r ≤ 3 → getR xs r = getR ys r) : xs = ys := by
  refine List.ext_getElem (by omega) fun i h1 h2 => ?_
  have := h i (by omega) (by omega)
  unfold getR at this
  rw [Int.toNat_natCast, List.getD_eq_getElem?_getD, List.getD_eq_getElem?_getD, List.getElem?_eq_getElem h1, List.getElem?_eq_getElem h2] at this
  exact this
theorem fitsR_iff (xs : List Int) (us : List Upd) : fitsR xs us = true ↔ ∀ u ∈ us, getR xs u.ref = u.old := by
  unfold fitsR; rw [List.all_eq_true]; simp only [decide_eq_true_eq]

theorem refsB_iff (xs : List Int) : refsB xs = true ↔ xs.length = 4 ∧ ∀ x ∈ xs, rid x = true := by
  unfold refsB ridsB; rw [Bool.and_eq_true, decide_eq_true_eq, List.all_eq_true]
theorem getR_mem {xs : List Int} {r : Int} (hl : xs.length = 4) (h0 : 0 ≤ r) (h3 : r ≤ 3) : getR xs r ∈ xs := by
  unfold getR
  rw [List.getD_eq_getElem?_getD, List.getElem?_eq_getElem (by omega)]
  exact List.getElem_mem _
theorem mem_getR {xs : List Int} (hl : xs.length = 4) {x : Int} (hx : x ∈ xs) : ∃ r : Int, 0 ≤ r ∧ r ≤ 3 ∧ getR xs r = x := by
  obtain ⟨i, hi, rfl⟩ := List.getElem_of_mem hx
  refine ⟨i, by omega, by omega, ?_⟩
  unfold getR
  rw [Int.toNat_natCast, List.getD_eq_getElem?_getD, List.getElem?_eq_getElem hi]; rfl
theorem refsB_setR {xs : List Int} {us : List Upd} (hx : refsB xs = true) (hu : Asc 0 us) : refsB (setR xs us) = true := by
  obtain ⟨hl, hr⟩ := (refsB_iff xs).1 hx
  rw [refsB_iff]
  refine ⟨by rw [setR_len]; exact hl, fun x hx => ?_⟩
  obtain ⟨r, h0, h3, rfl⟩ := mem_getR (by rw [setR_len]; exact hl) hx
  rw [getR_setR hu (Int.le_refl 0) hl h0]
  rcases hlk : look us r with _ | u
  · exact hr _ (getR_mem hl h0 h3)
  · exact ((uokB_iff u).1 (hu.mem u (look_some hlk).1).1).2.2.1

theorem applyB_and {xs : List Int} {us : List Upd} (h : applyB xs us = true) : refsB xs = true ∧ updsB us = true ∧ fitsR xs us = true := by
  unfold applyB at h
  simp only [Bool.and_eq_true] at h
  exact ⟨h.1.1, h.1.2, h.2⟩
theorem applyL_yes {xs : List Int} {us : List Upd} (h : applyB xs us = true) : applyL xs us = setR xs us := by
  obtain ⟨h1, h2, h3⟩ := applyB_and h
  unfold applyL; rw [if_pos ⟨h1, h2⟩, if_pos h3]
theorem applyL_no {xs : List Int} {us : List Upd} (h1 : refsB xs = true) (h2 : updsB us = true) (h3 : fitsR xs us = false) : applyL xs us = xs ∧ applyB xs us = false := by
  unfold applyL applyB; rw [if_pos ⟨h1, h2⟩, h3]; simp

/-- updates are performed once -/
theorem apply_twice {xs : List Int} {us : List Upd} (h : applyB xs us = true) : applyB (applyL xs us) us = false ∧ applyL (applyL xs us) us = applyL xs us := by
  obtain ⟨h1, h2, h3⟩ := applyB_and h
  obtain ⟨ha, hne⟩ := updsB_asc h2
  have hl := ((refsB_iff xs).1 h1).1
  rw [applyL_yes h]
  have hr := refsB_setR h1 ha
  have hf : fitsR (setR xs us) us = false := by
    rcases us with _ | ⟨u, us⟩
    · exact absurd rfl hne
    · rw [← Bool.not_eq_true, fitsR_iff]
      intro hall
      have hu := hall u (List.mem_cons_self ..)
      have hok := (uokB_iff u).1 (ha.mem u (List.mem_cons_self ..)).1
      rw [getR_setR ha (Int.le_refl 0) hl hok.1.1, look_mem ha (List.mem_cons_self ..)] at hu
      exact hok.2.2.2 hu.symm
  exact ⟨(applyL_no hr h2 hf).2, (applyL_no hr h2 hf).1⟩

def inv (u : Upd) : Upd := ⟨u.ref, u.new_, u.old⟩
theorem Asc.inv {us : List Upd} : ∀ {lo : Int}, Asc lo us → Asc lo (us.map inv) := by
  induction us with
  | nil => intro _ _; trivial
  | cons u us ih =>
    intro lo h
    obtain ⟨h1, h2, h3⟩ := h
    obtain ⟨a, b, c, d⟩ := (uokB_iff u).1 h1
    exact ⟨(uokB_iff _).2 ⟨a, c, b, fun e => d e.symm⟩, h2, ih h3⟩
/-- updates can be undone -/
theorem apply_back {xs : List Int} {us : List Upd} (h : applyB xs us = true) : applyB (applyL xs us) (us.map inv) = true ∧ applyL (applyL xs us) (us.map inv) = xs := by
  obtain ⟨h1, h2, h3⟩ := applyB_and h
  obtain ⟨ha, hne⟩ := updsB_asc h2
  have hl := ((refsB_iff xs).1 h1).1
  rw [applyL_yes h]
  have hr := refsB_setR h1 ha
  have hu : updsB (us.map inv) = true := asc_updsB ha.inv (by simpa using hne)
  have hf : fitsR (setR xs us) (us.map inv) = true := by
    rw [fitsR_iff]
    intro v hv
    obtain ⟨u, hu, rfl⟩ := List.mem_map.1 hv
    have hok := (uokB_iff u).1 (ha.mem u hu).1
    show getR (setR xs us) u.ref = u.new_
    rw [getR_setR ha (Int.le_refl 0) hl hok.1.1, look_mem ha hu]
  have hB : applyB (setR xs us) (us.map inv) = true := by unfold applyB; rw [hr, hu, hf]; rfl
  refine ⟨hB, ?_⟩
  rw [applyL_yes hB]
  refine list4 (by rw [setR_len, setR_len]; exact hl) hl fun r h0 h3' => ?_
  rw [getR_setR ha.inv (Int.le_refl 0) (by rw [setR_len]; exact hl) h0]
  rcases hlk : look (us.map inv) r with _ | v
  · rw [getR_setR ha (Int.le_refl 0) hl h0]
    rcases hlk2 : look us r with _ | u
    · rfl
    · exfalso
      obtain ⟨hm, hrr⟩ := look_some hlk2
      have := look_mem ha.inv (List.mem_map.2 ⟨u, hm, rfl⟩)
      rw [show (inv u).ref = r from hrr, hlk] at this
      cases this
  · obtain ⟨hm, hrr⟩ := look_some hlk
    obtain ⟨u, hu, rfl⟩ := List.mem_map.1 hm
    have := (fitsR_iff xs us).1 h3 u hu
    rw [show u.ref = r from hrr] at this
    exact this.symm

theorem cross_no {a b : List Upd} (ha : updsB a = true) (hb : updsB b = true) (h : crossB a b = false) : ∀ u ∈ a, ∀ v ∈ b, u.ref ≠ v.ref := by
  unfold crossB at h
  rw [ha, hb] at h
  simp only [Bool.and_true, Bool.true_and] at h
  intro u hu v hv e
  rw [← Bool.not_eq_true] at h
  exact h (List.any_eq_true.2 ⟨u, hu, List.any_eq_true.2 ⟨v, hv, by simp [e]⟩⟩)
theorem look_apart {a b : List Upd} (h : ∀ u ∈ a, ∀ v ∈ b, u.ref ≠ v.ref) (r : Int) {u : Upd} (hu : look a r = some u) : look b r = none := by
  rcases hb : look b r with _ | v
  · rfl
  · have h1 := look_some hu
    have h2 := look_some hb
    exact absurd (h1.2.trans h2.2.symm) (h u h1.1 v h2.1)
theorem fits_apart {xs : List Int} {a b : List Upd} (hl : xs.length = 4) (ha : Asc 0 a) (hb : Asc 0 b) (h : ∀ u ∈ a, ∀ v ∈ b, u.ref ≠ v.ref) : fitsR (setR xs a) b = fitsR xs b := by
  rw [Bool.eq_iff_iff, fitsR_iff, fitsR_iff]
  have key : ∀ v ∈ b, getR (setR xs a) v.ref = getR xs v.ref := by
    intro v hv
    have hok := (uokB_iff v).1 (hb.mem v hv).1
    rw [getR_setR ha (Int.le_refl 0) hl hok.1.1]
    rcases hlk : look a v.ref with _ | u
    · rfl
    · exact absurd (look_some hlk).2 (h u (look_some hlk).1 v hv)
  constructor
  · intro hall v hv; rw [← key v hv]; exact hall v hv
  · intro hall v hv; rw [key v hv]; exact hall v hv
theorem set_comm {xs : List Int} {a b : List Upd} (hl : xs.length = 4) (ha : Asc 0 a) (hb : Asc 0 b) (h : ∀ u ∈ a, ∀ v ∈ b, u.ref ≠ v.ref) : setR (setR xs a) b = setR (setR xs b) a := by
  refine list4 (by rw [setR_len, setR_len]; exact hl) (by rw [setR_len, setR_len]; exact hl) fun r h0 _ => ?_
  rw [getR_setR hb (Int.le_refl 0) (by rw [setR_len]; exact hl) h0, getR_setR ha (Int.le_refl 0) hl h0, getR_setR ha (Int.le_refl 0) (by rw [setR_len]; exact hl) h0, getR_setR hb (Int.le_refl 0) hl h0]
  rcases hka : look a r with _ | u
  · rfl
  · rw [look_apart h r hka]
/-- updates that do not cross commute -/
theorem apply_order {xs : List Int} {a b : List Upd} (hx : refsB xs = true) (ha : updsB a = true) (hb : updsB b = true) (h : crossB a b = false) :
    applyB (applyL xs a) b = applyB xs b ∧ applyB (applyL xs b) a = applyB xs a ∧ applyL (applyL xs a) b = applyL (applyL xs b) a := by
  have hap := cross_no ha hb h
  have hap' : ∀ u ∈ b, ∀ v ∈ a, u.ref ≠ v.ref := fun u hu v hv e => hap v hv u hu e.symm
  have hA := (updsB_asc ha).1
  have hB := (updsB_asc hb).1
  have hl := ((refsB_iff xs).1 hx).1
  have fa := fits_apart hl hA hB hap
  have fb := fits_apart hl hB hA hap'
  have ra := refsB_setR hx hA
  have rb := refsB_setR hx hB
  have e1 : ∀ us, updsB us = true → fitsR xs us = true → applyL xs us = setR xs us := fun us h1 h2 => applyL_yes (by unfold applyB; rw [hx, h1, h2]; rfl)
  have e2 : ∀ us, updsB us = true → fitsR xs us = false → applyL xs us = xs := fun us h1 h2 => (applyL_no hx h1 h2).1
  rcases fA : fitsR xs a with _ | _ <;> rcases fB : fitsR xs b with _ | _
  · rw [e2 a ha fA, e2 b hb fB]; exact ⟨rfl, rfl, (e2 a ha fA).symm⟩
  · rw [e2 a ha fA, e1 b hb fB]
    have n1 := applyL_no rb ha (by rw [fb]; exact fA)
    refine ⟨rfl, ?_, by rw [n1.1]⟩
    rw [n1.2, (applyL_no hx ha fA).2]
  · rw [e1 a ha fA, e2 b hb fB]
    have n1 := applyL_no ra hb (by rw [fa]; exact fB)
    refine ⟨?_, rfl, by rw [n1.1, e1 a ha fA]⟩
    rw [n1.2, (applyL_no hx hb fB).2]
  · rw [e1 a ha fA, e1 b hb fB]
    have y1 : applyB (setR xs a) b = true := by unfold applyB; rw [ra, hb, fa, fB]; rfl
    have y2 : applyB (setR xs b) a = true := by unfold applyB; rw [rb, ha, fb, fA]; rfl
    have y3 : applyB xs b = true := by unfold applyB; rw [hx, hb, fB]; rfl
    have y4 : applyB xs a = true := by unfold applyB; rw [hx, ha, fA]; rfl
    refine ⟨by rw [y1, y3], by rw [y2, y4], ?_⟩
    rw [applyL_yes y1, applyL_yes y2]; exact set_comm hl hA hB hap

end Go.Proofs.Ytgbkjfhmbchiiaa

namespace Go.Proofs.Ytgbkjfhmbchiiaa
set_option linter.unusedVariables false
set_option linter.unusedSimpArgs false
open Go.RowKit

def r00 : List Int := [-1, -1, -1, -1]
/-- the place of the part of a shard, or -1 -/
def partIx (ps : List PartD) (s : Int) : Int := idxI s (ps.map (·.shard))
def updsOf (ps : List PartD) (s : Int) : List Upd := (ps.getD (partIx ps s).toNat ⟨0, []⟩).us
def stepR (ts : List TxnD) (s : Int) (refs : List Int) (x : Int) : List Int :=
  if 0 ≤ partIx (ts.getD x.toNat ⟨[], [], 0⟩).parts s then setR refs (updsOf (ts.getD x.toNat ⟨[], [], 0⟩).parts s) else refs
def refsTo (ts : List TxnD) (s : Int) (ord : List Int) (k : Nat) : List Int := (ord.take k).foldl (stepR ts s) r00
theorem refsTo_zero (ts : List TxnD) (s : Int) (ord : List Int) : refsTo ts s ord 0 = r00 := by unfold refsTo; simp
theorem refsTo_succ {ts : List TxnD} {s : Int} {ord : List Int} {k : Nat} (h : k < ord.length) : refsTo ts s ord (k + 1) = stepR ts s (refsTo ts s ord k) ord[k] := by
  unfold refsTo
  rw [List.take_succ_eq_append_getElem h, List.foldl_append]; rfl
theorem partIx_lt (ps : List PartD) (s : Int) : -1 ≤ partIx ps s ∧ partIx ps s < ps.length := by
  have := idxI_lt s (ps.map (·.shard))
  rwa [List.length_map] at this
theorem partIx_at {ps : List PartD} {s : Int} {k : Nat} (hl : k < ps.length) (h : s ∉ (ps.map (·.shard)).take k) (he : ps[k].shard = s) : partIx ps s = k :=
  idxI_at (by simpa using hl) h (by simpa using he)
theorem partIx_none {ps : List PartD} {s : Int} {n : Nat} (hl : ps.length = n) (h : s ∉ (ps.map (·.shard)).take n) : partIx ps s = -1 := idxI_none (by simpa using hl) h
theorem part_next {ps : List PartD} {s : Int} {k : Nat} (hl : k < ps.length) (h : s ∉ (ps.map (·.shard)).take k) (he : ¬ ps[k].shard = s) : s ∉ (ps.map (·.shard)).take (k + 1) :=
  take_mem_succ (by simpa using hl) h (by simpa using he)
theorem partsB_upds {ps : List PartD} (h : partsB ps = true) {p : PartD} (hp : p ∈ ps) : updsB p.us = true := by
  obtain ⟨k, hk, rfl⟩ := List.getElem_of_mem hp
  have := (partsB_and h).1 k hk
  rw [part_at hk] at this
  simp only [Bool.and_eq_true] at this
  exact this.1.2
theorem upds_refs {us : List Upd} (h : updsB us = true) : ∀ u ∈ us, 0 ≤ u.ref ∧ u.ref ≤ 3 := fun u hu => ((uokB_iff u).1 ((updsB_asc h).1.mem u hu).1).1
theorem refs_r00 : refsB r00 = true := by decide
/-- the transaction of a number in the order -/
theorem ord_txn {c : CoordD} (h : coordB c = true) {k : Nat} (hk : k < c.order.length) : 0 ≤ c.order[k] ∧ c.order[k].toNat < c.txns.length ∧ partsB (c.txns.getD c.order[k].toNat ⟨[], [], 0⟩).parts = true := by
  obtain ⟨j, hj, he, -⟩ := coordB_order h (List.getElem_mem hk)
  have h1 := (coordB_all h j hj).1
  refine ⟨by omega, by omega, ?_⟩
  rw [show c.order[k].toNat = j by omega]
  exact (txnB_and h1).1
theorem stepR_refs {ts : List TxnD} {s : Int} {refs : List Int} {x : Int} (hr : refsB refs = true) (hp : partsB (ts.getD x.toNat ⟨[], [], 0⟩).parts = true) : refsB (stepR ts s refs x) = true := by
  unfold stepR updsOf
  generalize (ts.getD x.toNat ⟨[], [], 0⟩).parts = ps at hp ⊢
  by_cases h0 : 0 ≤ partIx ps s
  · rw [if_pos h0]
    have hlt := (partIx_lt ps s).2
    have hl : (partIx ps s).toNat < ps.length := by omega
    refine refsB_setR hr (updsB_asc (partsB_upds hp ?_)).1
    rw [List.getD_eq_getElem?_getD, List.getElem?_eq_getElem hl]
    exact List.getElem_mem _
  · rw [if_neg h0]; exact hr
theorem refsTo_refs {c : CoordD} (h : coordB c = true) (s : Int) : ∀ {k : Nat}, k ≤ c.order.length → refsB (refsTo c.txns s c.order k) = true := by
  intro k
  induction k with
  | zero => intro _; rw [refsTo_zero]; exact refs_r00
  | succ k ih =>
    intro hk
    rw [refsTo_succ (by omega)]
    exact stepR_refs (ih (by omega)) (ord_txn h (by omega)).2.2
theorem refsB_len {xs : List Int} (h : refsB xs = true) : xs.length = 4 := by
  unfold refsB at h
  simp only [Bool.and_eq_true, decide_eq_true_eq] at h
  exact h.1
theorem refsTo_len {c : CoordD} (h : coordB c = true) (s : Int) {k : Nat} (hk : k ≤ c.order.length) : (refsTo c.txns s c.order k).length = 4 := refsB_len (refsTo_refs h s hk)

theorem lst4 {xs : List Int} (h : xs.length = 4) : ∃ a b c d, xs = [a, b, c, d] := by
  match xs, h with
  | [a, b, c, d], _ => exact ⟨a, b, c, d, rfl⟩
theorem differ_pos {a b : List Int} (h1 : refsB a = true) (h2 : refsB b = true) : decide (0 < (differL a b).length) = !decide (a = b) := by
  obtain ⟨a0, a1, a2, a3, rfl⟩ := lst4 (refsB_len h1)
  obtain ⟨b0, b1, b2, b3, rfl⟩ := lst4 (refsB_len h2)
  unfold differL
  rw [if_pos ⟨h1, h2⟩]
  by_cases e0 : a0 = b0
  · subst e0
    by_cases e1 : a1 = b1
    · subst e1
      by_cases e2 : a2 = b2
      · subst e2
        by_cases e3 : a3 = b3
        · subst e3
          simp [List.range, List.range.loop, differAt]
        · simp [List.range, List.range.loop, differAt, e3]
      · simp [List.range, List.range.loop, differAt, e2]
    · simp [List.range, List.range.loop, differAt, e1]
  · simp [List.range, List.range.loop, differAt, e0]

/-- the shards whose refs differ -/
def difAt (c : CoordD) (a b : Int) (k : Nat) : Bool := !decide (refsTo c.txns k c.order a.toNat = refsTo c.txns k c.order b.toNat)
def difTo (c : CoordD) (a b : Int) (k : Nat) : List Int := ((List.range k).filter (difAt c a b)).map fun (k : Nat) => (k : Int)
def okSn (c : CoordD) (a b : Int) : Bool := coordB c && inR a 0 c.order.length && inR b 0 c.order.length
def difL (c : CoordD) (a b : Int) : List Int := if okSn c a b = true then difTo c a b 3 else []
theorem difTo_zero (c : CoordD) (a b : Int) : difTo c a b 0 = [] := rfl
theorem difTo_succ (c : CoordD) (a b : Int) (k : Nat) : difTo c a b (k + 1) = if difAt c a b k = true then difTo c a b k ++ [(k : Int)] else difTo c a b k := by
  unfold difTo
  rw [List.range_succ, List.filter_append, List.map_append]
  by_cases h : difAt c a b k = true
  · rw [if_pos h]; simp [h]
  · rw [if_neg h]; simp [h]
theorem difTo_len (c : CoordD) (a b : Int) (k : Nat) : (difTo c a b k).length ≤ k := by
  unfold difTo
  rw [List.length_map]
  have := List.length_filter_le (difAt c a b) (List.range k)
  rwa [List.length_range] at this
theorem difL_yes {c : CoordD} {a b : Int} (h : okSn c a b = true) : difL c a b = difTo c a b 3 := by unfold difL; rw [if_pos h]
theorem difL_no {c : CoordD} {a b : Int} (h : okSn c a b = false) : difL c a b = [] := by unfold difL; rw [h]; rfl

end Go.Proofs.Ytgbkjfhmbchiiaa

namespace Go.Proofs.Ytgbkjfhmbchiiaa
set_option linter.unusedVariables false
set_option linter.unusedSimpArgs false
open Go.RowKit

/-- the cells of the first k elements, and n - k zero elements behind them -/
def fillC {α : Type} (f : α → List Value) (z : List Value) (xs : List α) (n k : Nat) : List Value := (xs.take k).flatMap f ++ (List.replicate (n - k) z).flatten

def setMany : List Value → Nat → List Value → List Value
  | l, _, [] => l
  | l, p, v :: vs => setMany (l.set p v) (p + 1) vs

theorem setMany_mid (vs : List Value) : ∀ (a zs r : List Value), zs.length = vs.length → setMany (a ++ zs ++ r) a.length vs = a ++ vs ++ r := by
  induction vs with
  | nil => intro a zs r h; have : zs = [] := List.eq_nil_of_length_eq_zero h; subst this; simp [setMany]
  | cons v vs ih =>
    intro a zs r h
    rcases zs with _ | ⟨z, zs⟩
    · simp at h
    · have e : (a ++ z :: zs ++ r).set a.length v = (a ++ [v]) ++ zs ++ r := by
        simp [List.set_append_right]
      have := ih (a ++ [v]) zs r (by simpa using h)
      rw [setMany, e]
      simp only [List.length_append, List.length_singleton] at this
      rw [this]; simp

theorem fillC_step {α : Type} (f : α → List Value) (z : List Value) (m : Nat) (hf : ∀ x, (f x).length = m) (hz : z.length = m) (xs : List α) (n k : Nat) (hl : xs.length = n) (hk : k < n) (hk' : k < xs.length) :
    setMany (fillC f z xs n k) (k * m) (f xs[k]) = fillC f z xs n (k + 1) := by
  have e1 : ((xs.take k).flatMap f).length = k * m := by rw [flat_len f m hf, List.length_take]; rw [Nat.min_eq_left (by omega)]
  have e2 : List.replicate (n - k) z = z :: List.replicate (n - (k + 1)) z := by
    rw [← List.replicate_succ]; congr 1; omega
  unfold fillC
  rw [e2, List.flatten_cons, ← List.append_assoc, ← e1, setMany_mid _ _ _ _ (by rw [hz, hf]), List.take_succ_eq_append_getElem hk', List.flatMap_append]
  simp

theorem fillC_len {α : Type} (f : α → List Value) (z : List Value) (m : Nat) (hf : ∀ x, (f x).length = m) (hz : z.length = m) (xs : List α) (n k : Nat) (hl : xs.length = n) (hk : k ≤ n) : (fillC f z xs n k).length = n * m := by
  unfold fillC
  rw [List.length_append, flat_len f m hf, List.length_take, Nat.min_eq_left (by omega), List.length_flatten, List.map_replicate, List.sum_replicate_nat, hz, ← Nat.add_mul]
  congr 1; omega

theorem fillC_all {α : Type} (f : α → List Value) (z : List Value) (xs : List α) (n : Nat) (hl : xs.length = n) : fillC f z xs n n = xs.flatMap f := by
  unfold fillC
  rw [List.take_of_length_le (by omega), Nat.sub_self]; simp

theorem made_cells (z : List Value) (hz : 0 < z.length) (n : Nat) : (madeCells z.toArray (n * z.length)).toList = (List.replicate n z).flatten := by
  have hfl : ∀ (n i : Nat), i < n * z.length → (List.replicate n z).flatten[i]? = z[i % z.length]? := by
    intro n
    induction n with
    | zero => intro i h; omega
    | succ n ih =>
      intro i h
      rw [List.replicate_succ, List.flatten_cons]
      by_cases hi : i < z.length
      · rw [List.getElem?_append_left hi, Nat.mod_eq_of_lt hi]
      · rw [List.getElem?_append_right (by omega), ih (i - z.length) (by rw [Nat.add_mul] at h; omega), ← Nat.mod_eq_sub_mod (by omega)]
  refine List.ext_getElem? fun i => ?_
  unfold madeCells
  rw [Array.getElem?_toList, Array.getElem?_map]
  by_cases h : i < n * z.length
  · rw [hfl n i h]
    have hm : i % z.length < z.length := Nat.mod_lt _ hz
    simp [h, hm]
  · rw [List.getElem?_eq_none (l := (List.replicate n z).flatten) (by rw [List.length_flatten, List.map_replicate, List.sum_replicate_nat]; omega)]
    simp [h]

theorem stored3 {w : World} {base n g cap : Nat} {e : TypeId} {cs : List Value} {size : Nat} (h : w.ownsRow base e size (.slice (some ⟨g, 0, none⟩) n cap) n cs) (p : Nat) (a b c : Value) :
    (((w.setCell ⟨g, p, none⟩ a).setCell ⟨g, p + 1, none⟩ b).setCell ⟨g, p + 2, none⟩ c).ownsRow base e size (.slice (some ⟨g, 0, none⟩) n cap) n (setMany cs p [a, b, c]) :=
  (((h.stored p a).1.stored (p + 1) b).1.stored (p + 2) c).1
theorem stored4 {w : World} {base n g cap : Nat} {e : TypeId} {cs : List Value} {size : Nat} (h : w.ownsRow base e size (.slice (some ⟨g, 0, none⟩) n cap) n cs) (p : Nat) (a b c d : Value) :
    ((((w.setCell ⟨g, p, none⟩ a).setCell ⟨g, p + 1, none⟩ b).setCell ⟨g, p + 2, none⟩ c).setCell ⟨g, p + 3, none⟩ d).ownsRow base e size (.slice (some ⟨g, 0, none⟩) n cap) n (setMany cs p [a, b, c, d]) :=
  ((((h.stored p a).1.stored (p + 1) b).1.stored (p + 2) c).1.stored (p + 3) d).1
theorem grown_none {w w' : World} (h : Below w.heap.size w w') (row : Option Nat) : w.grownBy w' row := ⟨h.os, h.tape, h.output, h.size, fun i hi _ => h.block i hi⟩
theorem own_below {w w' : World} {base size n : Nat} {e : TypeId} {v : Value} {cs : List Value} (h : w.ownsRow base e size v n cs) (hb : Below w.heap.size w w') : w'.ownsRow base e size v n cs := by
  refine h.kept (grown_none hb (some w.heap.size)) ?_
  rcases hv : v.ownBlock with _ | k
  · exact .inl rfl
  · refine .inr (fun e => ?_)
    injection e with e
    have := (h.lt k hv).2; omega

/-- the cells of one element of a row of the call's own -/
theorem own_cells {w : World} {base size n g k : Nat} {e : TypeId} {cs : List Value} {cap : Nat} (h : w.ownsRow base e size (.slice (some ⟨g, 0, none⟩) n cap) n cs) (hk : k < n) (j : Nat) (hj : j < size) :
    ∃ u, w.cell? ⟨g, k * size + j, none⟩ = some u ∧ w.frozen? ⟨g, k * size + j, none⟩ = false := by
  have hlt : k * size + j < n * size := by
    have : (k + 1) * size ≤ n * size := Nat.mul_le_mul_right _ hk
    rw [Nat.add_mul] at this; omega
  refine ⟨cs[k * size + j]'(by rw [h.1]; exact hlt), ?_, h.frozenAt _⟩
  rw [h.cellAt _ hlt, List.getElem?_eq_getElem]

theorem run_make_rowN {P : Program} (t e : TypeId) (i : TypeInfo) (z : Value) (ht : P.underlying t = some (.slice e)) (hi : P.info? e = some i) (hz : i.zero = some z)
    (n : Nat) (hbytes : i.bytes * n ≤ 281474976710656) (h63 : n ≤ maxLen) (w : World) :
    (Instr.makeSlice t (.int .i64 (n : Int)) (.int .i64 (n : Int))).run P w = .ok (.slice (some ⟨w.heap.size, 0, none⟩) n n) (w.alloc (.cells (madeCells z.cells (n * i.size)) e)) := by
  have hb : (i.bytes : Int) * (n : Int) ≤ 281474976710656 := by
    have h : ((i.bytes * n : Nat) : Int) ≤ 281474976710656 := by omega
    rwa [Int.natCast_mul] at h
  have hr := run_make (P := P) w t e i z ht hi hz .i64 .i64 n n (by omega) (Int.le_refl _) hb (by unfold maxLen at h63; omega)
  simp only [Int.toNat_natCast] at hr
  exact hr

end Go.Proofs.Ytgbkjfhmbchiiaa
