/-
  The walks of the reference's l22Parts: whether parts are valid. Condition: lengths fit an int64.
  The walks of slices.Index and slices.Contains at a slice of ints: the least place at which a number stands, or -1. No condition.
  Plain laws on coordinators: the order of the committed ones, told by sorting or by counting; the place of a transaction. No program in sight.
  A send into a buffer with room, and a receive, as operations of a region: the kit's walk around them, the machine's own step at them. Plain laws over any program.
-/
import Derived.Test.YtgbkjfhmbchiiaaM7
import Derived.Test.YtgbkjfhmbchiiaaRefsV
import Derived.Deep.DeepCutAuto
import Derived.Deep.CutBlock
import Derived.Test.YtgbkjfhmbchiiaaM1
import Derived.Test.YtgbkjfhmbchiiaaM3
import Derived.Conc.LoneCalls
namespace Go.Proofs.Ytgbkjfhmbchiiaa
set_option linter.unusedVariables false
set_option linter.unusedSimpArgs false
open Go.RowKit

set_option maxHeartbeats 3200000 in
set_option maxRecDepth 100000 in
theorem l22Parts_any (ps : List PartD) (A : Option Addr) (n c : Nat) (w : World) (lo hi : Nat) (hh : hi ≤ w.heap.size) (h : D.rd w lo hi (dParts ps) (.slice A n c)) :
    Calls Try.prog 50 #[.slice A n c] w fun e w' => e = .returned (.bool (partsB ps)) ∧ Below w.heap.size w w' := by
  have HI := Lib.hid h
  have HN := Lib.hid h.len.1
  have hn63 : n ≤ 9223372036854775807 := by have := h.len; omega
  clear h
  go_enter Try.func50, Try.ntmps50
  go_wp2_with fail
  go_loopw [3] (fun i wr => ∃ k : Nat, k ≤ n ∧ i = .int .i64 k ∧ Hid (allTo (partAt ps) k = true) ∧ Below w.heap.size w wr) (fun i _ => n - (intOf i).toNat)
  case atStart => exact ⟨0, Nat.zero_le _, rfl, rfl, Below.refl _ _⟩
  case round =>
    obtain ⟨k, hk, rfl, HT, hb⟩ := hrel
    have HB := Lib.hid hb
    have hwsz := hb.size
    clear hb
    by_cases hlt : k < n
    · obtain ⟨b, o, hl, A1, n1, c1, rfl, _, hbh, hc0, hc1, ⟨hn1, hm1, hr1⟩⟩ := rd_Part (HI.out.below HB.out hh) hlt
      have hbw : b < wr.heap.size := by omega
      have hhr : hi ≤ wr.heap.size := by omega
      have HB2 := HB
      have HU := Lib.hid hr1.upds
      have HQ : Hid (∀ (v : Value) (q : Addr), wr.cell? q = some v → wr.cell? q = some v) := fun v q he => he
      have hq0 : ∀ p : BelBy wr, p.w.cell? ⟨b, o + k * 2, none⟩ = some (.int .i64 ps[k].shard) := fun p => p.cell hc0
      have hq1 : ∀ p : BelBy wr, p.w.cell? ⟨b, o + k * 2 + 1, none⟩ = some (.slice A1 n1 c1) := fun p => p.cell hc1
      have hh2 := hhr
      clear hr1
      rcases g1 : inR ps[k].shard 0 2 with _ | _
      · have hno := Lib.hid (part_no1 hl g1)
        go_wp2_with fail
        refine quiet_bel (by kernel_rfl) (by kernel_rfl) ?_
        repeat (go_big_quiet_step (first | (go_at_call 41; exact bel_same (l6In_any _ _ _ _)) | (go_at_call 69; exact bel_call (specUpds_any A1 n1 c1 ps[k].us _ lo hi (Nat.le_trans hh2 (BelBy.h _).size) (by omega) (Fl.below HU.out (BelBy.h _) hh2)))))
        refine wpQuiet_nil ?_
        intro _ hw'
        obtain ⟨⟨wz, hbz⟩, rfl⟩ := hw'
        have HBZ := Lib.hid (bel_tr HB2.out (Nat.le_refl _) hbz)
        clear hbz hq0 hq1
        go_wp2_with fail
        go_ret
        exact ⟨ret_bool hno.out.symm, HBZ.out⟩
      · rcases g2 : updsB ps[k].us with _ | _
        · have hno := Lib.hid (part_no2 hl g2)
          go_wp2_with fail
          refine quiet_bel (by kernel_rfl) (by kernel_rfl) ?_
          repeat (go_big_quiet_step (first | (go_at_call 41; exact bel_same (l6In_any _ _ _ _)) | (go_at_call 69; exact bel_call (specUpds_any A1 n1 c1 ps[k].us _ lo hi (Nat.le_trans hh2 (BelBy.h _).size) (by omega) (Fl.below HU.out (BelBy.h _) hh2)))))
          refine wpQuiet_nil ?_
          intro _ hw'
          obtain ⟨⟨wz, hbz⟩, rfl⟩ := hw'
          have HBZ := Lib.hid (bel_tr HB2.out (Nat.le_refl _) hbz)
          clear hbz hq0 hq1
          go_wp2_with fail
          go_ret
          exact ⟨ret_bool hno.out.symm, HBZ.out⟩
        · rcases k with _ | k
          · have hyes := Lib.hid (part_yes0 hl g1 g2)
            simp only [Nat.zero_mul, Nat.add_zero] at hc0 hc1 hq0 hq1
            go_wp2_with fail
            refine quiet_bel (by kernel_rfl) (by kernel_rfl) ?_
            repeat (go_big_quiet_step (first | (go_at_call 41; exact bel_same (l6In_any _ _ _ _)) | (go_at_call 69; exact bel_call (specUpds_any A1 n1 c1 ps[0].us _ lo hi (Nat.le_trans hh2 (BelBy.h _).size) (by omega) (Fl.below HU.out (BelBy.h _) hh2)))))
            refine wpQuiet_nil ?_
            intro _ hw'
            obtain ⟨⟨wz, hbz⟩, rfl⟩ := hw'
            have HBZ := Lib.hid (bel_tr HB2.out (Nat.le_refl _) hbz)
            clear hbz hq0 hq1
            go_wp2_with fail
            exact ⟨⟨1, by omega, by go_num, allTo_succ HT.out hyes.out, HBZ.out⟩, by simp [intOf]; omega⟩
          · obtain ⟨b1, o1, hl1, B1, m1, d1, he1, _, _, hv0, -, -⟩ := rd_Part (HI.out.below HB.out hh) (k := k) (by omega)
            injection he1 with he1
            injection he1 with ea eb ec
            subst ea eb
            have hwk : IntKind.i64.wrap (k : Int) = (k : Int) := IntWalk.i64_in _ (by omega)
            have hkn1 : (k : Int) < (n : Int) := by omega
            have hkn2 : k < n := by omega
            have hq2 : ∀ p : BelBy wr, p.w.cell? ⟨b, o + k * 2, none⟩ = some (.int .i64 ps[k].shard) := fun p => p.cell (HQ.out _ _ hv0)
            by_cases g6 : ps[k + 1].shard ≤ ps[k].shard
            · have hno := Lib.hid (part_no3 hl g6)
              go_wp2_with fail
              refine quiet_bel (by kernel_rfl) (by kernel_rfl) ?_
              repeat (go_big_quiet_step (first | (go_at_call 41; exact bel_same (l6In_any _ _ _ _)) | (go_at_call 69; exact bel_call (specUpds_any A1 n1 c1 ps[k + 1].us _ lo hi (Nat.le_trans hh2 (BelBy.h _).size) (by omega) (Fl.below HU.out (BelBy.h _) hh2)))))
              refine wpQuiet_nil ?_
              intro _ hw'
              obtain ⟨⟨wz, hbz⟩, rfl⟩ := hw'
              have HBZ := Lib.hid (bel_tr HB2.out (Nat.le_refl _) hbz)
              clear hbz hq0 hq1 hq2
              go_wp2_with fail
              go_ret
              exact ⟨ret_bool hno.out.symm, HBZ.out⟩
            · have hyes := Lib.hid (part_yes hl g1 g2 (by omega))
              have hd6 : decide (ps[k + 1].shard ≤ ps[k].shard) = false := decide_eq_false g6
              go_wp2_with fail
              refine quiet_bel (by kernel_rfl) (by kernel_rfl) ?_
              repeat (go_big_quiet_step (first | (go_at_call 41; exact bel_same (l6In_any _ _ _ _)) | (go_at_call 69; exact bel_call (specUpds_any A1 n1 c1 ps[k + 1].us _ lo hi (Nat.le_trans hh2 (BelBy.h _).size) (by omega) (Fl.below HU.out (BelBy.h _) hh2)))))
              refine wpQuiet_nil ?_
              intro _ hw'
              obtain ⟨⟨wz, hbz⟩, rfl⟩ := hw'
              have HBZ := Lib.hid (bel_tr HB2.out (Nat.le_refl _) hbz)
              clear hbz hq0 hq1 hq2
              go_wp2_with fail
              exact ⟨⟨k + 1 + 1, by omega, by go_num, allTo_succ HT.out hyes.out, HBZ.out⟩, by simp [intOf]; omega⟩
    · have hkn : k = n := by omega
      subst hkn
      have hres : Hid (partsB ps = decide (0 < k)) := by
        show _ = _
        unfold partsB
        rw [← HN.out, HT.out]; rfl
      go_wp2_with fail
      go_ret
      exact ⟨ret_bool (by first | (rw [hres.out]; done) | (rw [hres.out]; simp)), HB.out⟩

end Go.Proofs.Ytgbkjfhmbchiiaa

namespace Go.Proofs.Ytgbkjfhmbchiiaa
set_option linter.unusedVariables false
set_option linter.unusedSimpArgs false
open Go.RowKit

def hasB (x : Int) (xs : List Int) : Bool := decide (x ∈ xs)
def idxI (x : Int) (xs : List Int) : Int := if x ∈ xs then (xs.idxOf x : Int) else -1

theorem idxI_ge (x : Int) (xs : List Int) : decide (0 ≤ idxI x xs) = hasB x xs := by
  unfold idxI hasB
  by_cases h : x ∈ xs <;> simp [h]

theorem take_mem_succ {x : Int} {xs : List Int} {k : Nat} (hl : k < xs.length) (h : x ∉ xs.take k) (hne : ¬ xs[k] = x) : x ∉ xs.take (k + 1) := by
  rw [List.take_succ_eq_append_getElem hl]
  simp only [List.mem_append, List.mem_singleton, not_or]
  exact ⟨h, fun e => hne e.symm⟩
theorem idxI_at {x : Int} {xs : List Int} {k : Nat} (hl : k < xs.length) (h : x ∉ xs.take k) (he : xs[k] = x) : idxI x xs = k := by
  have hm : x ∈ xs := by rw [← he]; exact List.getElem_mem hl
  unfold idxI
  rw [if_pos hm]
  have e : xs = xs.take k ++ xs[k] :: xs.drop (k + 1) := by
    rw [← List.drop_eq_getElem_cons hl]; exact (List.take_append_drop k xs).symm
  have : xs.idxOf x = k := by
    rw [e, List.idxOf_append, if_neg h, he, List.idxOf_cons_self, List.length_take]
    omega
  rw [this]
theorem idxI_none {x : Int} {xs : List Int} {n : Nat} (hl : xs.length = n) (h : x ∉ xs.take n) : idxI x xs = -1 := by
  unfold idxI
  rw [List.take_of_length_le (by omega)] at h
  rw [if_neg h]
theorem hasB_at {x : Int} {xs : List Int} {k : Nat} (hl : k < xs.length) (he : xs[k] = x) : hasB x xs = true := by
  unfold hasB; rw [decide_eq_true_eq, ← he]; exact List.getElem_mem hl
theorem hasB_none {x : Int} {xs : List Int} {n : Nat} (hl : xs.length = n) (h : x ∉ xs.take n) : hasB x xs = false := by
  unfold hasB; rw [List.take_of_length_le (by omega)] at h; simpa using h

set_option maxHeartbeats 400000 in
theorem index_any (A : Option Addr) (n c : Nat) (xs : List Int) (x : Int) (w : World) (lo hi : Nat) (hn : n ≤ 9223372036854775807) (h : Ints w lo hi A n xs) :
    Calls Try.prog 27 #[.slice A n c, .int .i64 x] w fun e w' => e = .returned (.int .i64 (idxI x xs)) ∧ w = w' := by
  have HI := Lib.hid h
  clear h
  go_enter Try.func27, Try.ntmps27
  go_wp2
  go_loop [8] (fun i => ∃ k : Nat, k ≤ n ∧ i = .int .i64 k ∧ x ∉ xs.take k) (fun i => n - (intOf i).toNat)
  case atStart => exact ⟨0, Nat.zero_le _, rfl, by simp⟩
  case round =>
    obtain ⟨k, hk, rfl, hx⟩ := hrel
    by_cases hlt : k < n
    · obtain ⟨b, o, hl, rfl, _, _, hc⟩ := HI.out.int hlt
      by_cases he : xs[k] = x
      · have hd : (x == xs[k]) = true := by simp [he]
        go_wp2
        go_ret
        exact ⟨ret_int (idxI_at hl hx he).symm, rfl⟩
      · have hd : (x == xs[k]) = false := by simp [beq_eq_false_iff_ne]; exact fun e => he e.symm
        have hx' := take_mem_succ hl hx he
        go_wp2
        exact ⟨⟨k + 1, by omega, by go_num, hx'⟩, by simp [intOf]; omega⟩
    · have hkn : k = n := by omega
      subst hkn
      go_wp2
      go_ret
      exact ⟨ret_int (idxI_none HI.out.1 hx).symm, rfl⟩

end Go.Proofs.Ytgbkjfhmbchiiaa

namespace Go.Proofs.Ytgbkjfhmbchiiaa
set_option linter.unusedVariables false
set_option linter.unusedSimpArgs false
open Go.RowKit

def leI2 (x y : Int) : Bool := decide (x ≤ y)
theorem leI2_tr (a b c : Int) (h1 : leI2 a b = true) (h2 : leI2 b c = true) : leI2 a c = true := by simp only [leI2, decide_eq_true_eq] at *; omega
theorem leI2_to (a b : Int) : (leI2 a b || leI2 b a) = true := by simp only [leI2, Bool.or_eq_true, decide_eq_true_eq]; omega
/-- a row that holds all of a row without repeats, and is no longer, is a permutation of it -/
theorem perm_of_nodup : ∀ {l m : List Int}, l.Nodup → (∀ x ∈ l, x ∈ m) → m.length = l.length → l.Perm m
  | [], m, _, _, h => by
    rw [List.length_nil] at h
    rw [List.eq_nil_of_length_eq_zero h]
  | a :: l, m, hn, hs, h => by
    have hn' := List.nodup_cons.1 hn
    have ha : a ∈ m := hs a List.mem_cons_self
    have hp := List.perm_cons_erase ha
    refine List.Perm.trans (List.Perm.cons a (perm_of_nodup hn'.2 (fun x hx => ?_) ?_)) hp.symm
    · have hne : x ≠ a := fun e => hn'.1 (by rw [← e]; exact hx)
      exact (List.mem_erase_of_ne hne).2 (hs x (List.mem_cons_of_mem _ hx))
    · have := hp.length_eq
      simp only [List.length_cons] at this h
      omega
theorem comms_mem {ts : List TxnD} {x : Int} : x ∈ comms ts ↔ ∃ k : Nat, k < ts.length ∧ x = (k : Int) ∧ comAt ts k = true := by
  unfold comms
  simp only [List.mem_map, List.mem_filter, List.mem_range]
  constructor
  · rintro ⟨k, ⟨h1, h2⟩, h3⟩; exact ⟨k, h1, h3.symm, h2⟩
  · rintro ⟨k, h1, h2, h3⟩; exact ⟨k, ⟨h1, h3⟩, h2.symm⟩
theorem comms_lt (ts : List TxnD) : (comms ts).Pairwise (fun x y => x < y) := by
  unfold comms
  rw [List.pairwise_map]
  exact (List.Pairwise.imp (fun h => by omega) (List.Pairwise.filter _ List.pairwise_lt_range))
theorem comms_nodup (ts : List TxnD) : (comms ts).Nodup := (comms_lt ts).imp (fun h => by omega)
theorem comms_sorted (ts : List TxnD) : (comms ts).Pairwise (fun x y => leI2 x y = true) := (comms_lt ts).imp (fun h => by simp only [leI2, decide_eq_true_eq]; omega)
theorem comms_len (ts : List TxnD) : (comms ts).length ≤ ts.length := by
  unfold comms
  rw [List.length_map]
  have := List.length_filter_le (comAt ts) (List.range ts.length)
  rwa [List.length_range] at this
theorem sorted_perm {l : List Int} {ts : List TxnD} : l.mergeSort (fun x y => decide (x ≤ y)) = comms ts ↔ l.Perm (comms ts) := by
  constructor
  · intro h
    have := List.mergeSort_perm l (fun x y => decide (x ≤ y))
    rw [h] at this
    exact this.symm
  · intro h
    refine List.Perm.eq_of_pairwise (le := fun a b => leI2 a b = true) (fun a b _ _ h1 h2 => ?_) (List.pairwise_mergeSort leI2_tr leI2_to l) (comms_sorted ts) ((List.mergeSort_perm l _).trans h)
    simp only [leI2, decide_eq_true_eq] at h1 h2
    omega
/-- transaction k stands in the order just where it is committed -/
def hasAt (c : CoordD) (k : Nat) : Bool := comAt c.txns k == hasB (k : Int) c.order
theorem order_iff (c : CoordD) : c.order.mergeSort (fun x y => decide (x ≤ y)) = comms c.txns ↔ ((∀ k, k < c.txns.length → hasAt c k = true) ∧ c.order.length = (comms c.txns).length) := by
  rw [sorted_perm]
  constructor
  · intro h
    refine ⟨fun k hk => ?_, h.length_eq⟩
    unfold hasAt
    rw [beq_iff_eq, Bool.eq_iff_iff, hasB, decide_eq_true_eq, h.mem_iff, comms_mem]
    constructor
    · intro g; exact ⟨k, hk, rfl, g⟩
    · rintro ⟨j, -, e, g⟩
      obtain rfl : k = j := by omega
      exact g
  · rintro ⟨h1, h2⟩
    refine (perm_of_nodup (comms_nodup _) (fun x hx => ?_) h2).symm
    obtain ⟨k, hk, rfl, g⟩ := comms_mem.1 hx
    have := h1 k hk
    unfold hasAt at this
    rw [beq_iff_eq, g] at this
    exact of_decide_eq_true this.symm
/-- what the reference asks of transaction k -/
def okAt (c : CoordD) (k : Nat) : Bool := txnB (c.txns.getD k ⟨[], [], 0⟩) && hasAt c k
theorem all_txn (c : CoordD) : c.txns.all txnB = true ↔ ∀ k, k < c.txns.length → txnB (c.txns.getD k ⟨[], [], 0⟩) = true := by
  rw [List.all_eq_true]
  constructor
  · intro h k hk
    rw [List.getD_eq_getElem?_getD, List.getElem?_eq_getElem hk]
    exact h _ (List.getElem_mem hk)
  · intro h x hx
    obtain ⟨k, hk, rfl⟩ := List.getElem_of_mem hx
    have := h k hk
    rwa [List.getD_eq_getElem?_getD, List.getElem?_eq_getElem hk] at this
theorem coordB_iff (c : CoordD) : coordB c = (allTo (okAt c) c.txns.length && decide (c.txns.length ≤ 12) && decide (c.order.length = (comms c.txns).length)) := by
  unfold coordB
  rw [Bool.eq_iff_iff]
  simp only [Bool.and_eq_true, decide_eq_true_eq, order_iff, all_txn, allTo_iff, okAt]
  constructor
  · rintro ⟨⟨h1, h2⟩, h3, h4⟩; exact ⟨⟨fun k hk => ⟨h1 k hk, h3 k hk⟩, h2⟩, h4⟩
  · rintro ⟨⟨h1, h2⟩, h4⟩; exact ⟨⟨fun k hk => (h1 k hk).1, h2⟩, fun k hk => (h1 k hk).2, h4⟩
theorem coordB_no {c : CoordD} {k : Nat} (hk : k < c.txns.length) (h : okAt c k = false) : coordB c = false := by rw [coordB_iff, allTo_no hk h]; rfl
theorem coordB_no1 {c : CoordD} {k : Nat} (hk : k < c.txns.length) (h : txnB c.txns[k] = false) : coordB c = false := coordB_no hk (by
  unfold okAt; rw [List.getD_eq_getElem?_getD, List.getElem?_eq_getElem hk]; show (txnB c.txns[k] && _) = false; rw [h]; rfl)
theorem coordB_all {c : CoordD} (h : coordB c = true) : ∀ k, k < c.txns.length → txnB (c.txns.getD k ⟨[], [], 0⟩) = true ∧ hasAt c k = true := by
  intro k hk
  rw [coordB_iff] at h
  simp only [Bool.and_eq_true, allTo_iff, okAt] at h
  exact h.1.1 k hk
theorem coordB_len {c : CoordD} (h : coordB c = true) : c.txns.length ≤ 12 ∧ c.order.length ≤ 12 := by
  rw [coordB_iff] at h
  simp only [Bool.and_eq_true, decide_eq_true_eq] at h
  have := comms_len c.txns
  omega
theorem comms_to (ts : List TxnD) : comms ts = commTo ts ts.length := rfl
theorem commTo_len (ts : List TxnD) (k : Nat) : (commTo ts k).length ≤ k := by
  unfold commTo
  rw [List.length_map]
  have := List.length_filter_le (comAt ts) (List.range k)
  rwa [List.length_range] at this
/-- the numbers in the order are those of transactions -/
theorem coordB_order {c : CoordD} (h : coordB c = true) {x : Int} (hx : x ∈ c.order) : ∃ k : Nat, k < c.txns.length ∧ x = (k : Int) ∧ comAt c.txns k = true := by
  have h2 : c.order.mergeSort (fun x y => decide (x ≤ y)) = comms c.txns := by
    unfold coordB at h
    simp only [Bool.and_eq_true, decide_eq_true_eq] at h
    exact h.2
  exact comms_mem.1 ((sorted_perm.1 h2).mem_iff.1 hx)
theorem comAt_get {ts : List TxnD} {k : Nat} (h : k < ts.length) : comAt ts k = decide (ts[k].dec = 2) := by
  unfold comAt; rw [List.getD_eq_getElem?_getD, List.getElem?_eq_getElem h]; rfl

/-- the place of a transaction, counted from 1, or -1 -/
def firstL (c : CoordD) (txn : Int) : Int := if coordB c = true ∧ 0 ≤ idxI txn c.order then idxI txn c.order + 1 else -1
theorem firstL_bad {c : CoordD} {txn : Int} (h : coordB c = false) : firstL c txn = -1 := by unfold firstL; rw [if_neg (by rw [h]; simp)]
theorem firstL_none {c : CoordD} {txn : Int} (h : idxI txn c.order < 0) : firstL c txn = -1 := by unfold firstL; rw [if_neg (by omega)]
theorem firstL_at {c : CoordD} {txn : Int} (h : coordB c = true) (h2 : 0 ≤ idxI txn c.order) : firstL c txn = idxI txn c.order + 1 := by unfold firstL; rw [if_pos ⟨h, h2⟩]
theorem idxI_lt (x : Int) (xs : List Int) : -1 ≤ idxI x xs ∧ idxI x xs < xs.length := by
  unfold idxI
  by_cases h : x ∈ xs
  · rw [if_pos h]
    have := List.idxOf_lt_length_iff.2 h
    omega
  · rw [if_neg h]; omega

end Go.Proofs.Ytgbkjfhmbchiiaa

namespace Go.Proofs.Ytgbkjfhmbchiiaa
set_option linter.unusedVariables false
set_option linter.unusedSimpArgs false
open Go.RowKit Go.Conc

/-- from these operations of a region on, the machine comes to an exit of which Q holds -/
def WpO (P : Program) (ops : Array Oper) (Q : Exit → Act → World → Prop) (l : List Nat) (a : Act) (w : World) : Prop :=
  ∀ (b : Frame) (k : List Item) (cs : List Frame), ∃ e a' w', Q e a' w' ∧ Arrives P (lone (b.at a (.inRegion ops l :: k)) cs w) b k cs e a' w'
section
variable {P : Program} {ops : Array Oper} {Q : Exit → Act → World → Prop} {a : Act} {w w' : World} {i : Nat} {rest : List Nat} {o : Oper} {c cap s r : Nat} {buf : Array Value} {z v : Value} {tm closed : Bool}
theorem WpO.of {l : List Nat} (h : wpOps P ops Q l a w) : WpO P ops Q l a w := wp_ops l a w h
theorem WpO.region {id : Nat} (h : WpO P ops Q (List.range ops.size) a w) : (Code.region id ops false).wp P Q a w :=
  fun b k cs => let ⟨e, a', w', q, r⟩ := h b k cs; ⟨e, a', w', q, .of_steps (.one step_region) r⟩
theorem WpO.nil (h : Q .normal a w) : WpO P ops Q [] a w := fun b k cs => ⟨.normal, a, w, h, .one step_region_end⟩
theorem WpO.value (ho : ops[i]? = some o) (hw : Region.wanted o (yielded ops a.tmps) = true) (hr : (execOp a.eval o).run P w = .ok (.value v) w') (h : WpO P ops Q rest (a.put o.dst v) w') : WpO P ops Q (i :: rest) a w := by
  intro b k cs
  obtain ⟨e, a', w'', hq, harr⟩ := h b k cs
  refine ⟨e, a', w'', hq, .of_steps (.one (step_lone_go ?_)) harr⟩
  have hg := stepG_op (P := P) (b := b) (k := k) (cs := cs) (w := w) (rest := rest) ho hw
  have hfin : (b.at a (.inRegion ops (i :: rest) :: k)).finish v = b.at (a.put o.dst v) (.inRegion ops rest :: k) := by rw [Frame.finish_at, ho]; rfl
  rw [hg, ← hfin]; simp [stepG.apply, hr]
theorem stepG_comm_any {main : Bool} {b : Frame} {k : List Item} {cs : List Frame} {cases : Array CommCase} {blocking : Bool} {shape : CommShape} (ho : ops[i]? = some o) (hw : Region.wanted o (yielded ops a.tmps) = true)
    (hr : (execOp a.eval o).run P w = .ok (.comm cases blocking shape) w') :
    ∃ es, stepG P main (G (b.at a (.inRegion ops (i :: rest) :: k)) cs) w = .comm (G (b.at a (.inRegion ops (i :: rest) :: k)) cs) cases blocking shape w' es := by
  have hb : (stepG P main (G (b.at a (.inRegion ops (i :: rest) :: k)) cs) w).bare = .comm (G (b.at a (.inRegion ops (i :: rest) :: k)) cs) cases blocking shape w' := by
    rw [stepG_oper ho hw]
    simp [stepG.apply, hr, G, Frame.at]
  generalize stepG P main (G (b.at a (.inRegion ops (i :: rest) :: k)) cs) w = s at hb ⊢
  cases s <;> simp at hb
  obtain ⟨rfl, rfl, rfl, rfl, rfl⟩ := hb
  exact ⟨_, rfl⟩
theorem WpO.send (ho : ops[i]? = some o) (hw : Region.wanted o (yielded ops a.tmps) = true) (hr : (execOp a.eval o).run P w = .ok (.comm #[scase c v z] true .send) w) (hc : w.heap[c]? = some (.chan cap buf false s r tm)) (hroom : buf.size < cap)
    (h : WpO P ops Q rest (a.put o.dst undef) (w.setChan c cap (buf.push v) false (s + 1) r tm)) : WpO P ops Q (i :: rest) a w := by
  intro b k cs
  obtain ⟨es, he⟩ := stepG_comm_any (P := P) (main := true) (b := b) (k := k) (cs := cs) (rest := rest) ho hw hr
  obtain ⟨e, a', w', hq, harr⟩ := h b k cs
  refine ⟨e, a', w', hq, .of_steps (.one ?_) harr⟩
  have h1 := step_lone_send_room he hc hroom
  rw [Frame.finish_at, ho] at h1
  exact h1
theorem WpO.recv (ok : Bool) (ho : ops[i]? = some o) (hw : Region.wanted o (yielded ops a.tmps) = true) (hr : (execOp a.eval o).run P w = .ok (.comm #[rcase c z] true (.recv ok)) w) (hc : w.heap[c]? = some (.chan cap buf closed s r tm)) (hsome : 0 < buf.size)
    (h : WpO P ops Q rest (a.put o.dst (got ok (buf.getD 0 undef) true)) (w.setChan c cap (buf.extract 1 buf.size) closed s (r + 1) tm)) : WpO P ops Q (i :: rest) a w := by
  intro b k cs
  obtain ⟨es, he⟩ := stepG_comm_any (P := P) (main := true) (b := b) (k := k) (cs := cs) (rest := rest) ho hw hr
  obtain ⟨e, a', w', hq, harr⟩ := h b k cs
  refine ⟨e, a', w', hq, .of_steps (.one ?_) harr⟩
  have h1 := step_lone_recv_buf ok he hc hsome
  rw [Frame.finish_at, ho] at h1
  exact h1
theorem WpO.shut (ok : Bool) (ho : ops[i]? = some o) (hw : Region.wanted o (yielded ops a.tmps) = true) (hr : (execOp a.eval o).run P w = .ok (.comm #[rcase c z] true (.recv ok)) w) (hc : w.heap[c]? = some (.chan cap #[] true s r tm))
    (h : WpO P ops Q rest (a.put o.dst (got ok z false)) w) : WpO P ops Q (i :: rest) a w := by
  intro b k cs
  obtain ⟨es, he⟩ := stepG_comm_any (P := P) (main := true) (b := b) (k := k) (cs := cs) (rest := rest) ho hw hr
  obtain ⟨e, a', w', hq, harr⟩ := h b k cs
  refine ⟨e, a', w', hq, .of_steps (.one ?_) harr⟩
  have h1 := step_lone_recv_shut ok he hc
  rw [Frame.finish_at, ho] at h1
  exact h1
end

/-- what else lies in memory is as it was -/
theorem chan_block {w : World} {c cap : Nat} {buf : Array Value} {cl : Bool} {s r : Nat} {tm : Bool} (h : c < w.heap.size) : (w.setChan c cap buf cl s r tm).heap[c]? = some (.chan cap buf cl s r tm) := by simp [World.setChan, h]
theorem chan_grown (w : World) (c cap : Nat) (buf : Array Value) (cl : Bool) (s r : Nat) (tm : Bool) : w.grownBy (w.setChan c cap buf cl s r tm) (some c) :=
  ⟨rfl, rfl, rfl, by simp [World.setChan], fun i _ hne => by simp only [World.setChan]; rw [Array.getElem?_setIfInBounds_ne (fun e => hne (by rw [e]))]⟩

end Go.Proofs.Ytgbkjfhmbchiiaa
