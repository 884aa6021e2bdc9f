/-
  Plain laws of the shards whose refs differ between two snapshots. No condition.
-/
import Derived.Test.YtgbkjfhmbchiiaaM11
namespace Go.Proofs.Ytgbkjfhmbchiiaa
set_option linter.unusedVariables false
set_option linter.unusedSimpArgs false
open Go.RowKit

theorem difTo_mem {c : CoordD} {a b x : Int} {n : Nat} : x ∈ difTo c a b n ↔ ∃ k : Nat, k < n ∧ x = (k : Int) ∧ difAt c a b k = true := by
  unfold difTo
  simp only [List.mem_map, List.mem_filter, List.mem_range]
  constructor
  · rintro ⟨k, ⟨h1, h2⟩, rfl⟩; exact ⟨k, h1, rfl, h2⟩
  · rintro ⟨k, h1, rfl, h2⟩; exact ⟨k, ⟨h1, h2⟩, rfl⟩
theorem difAt_symm (c : CoordD) (a b : Int) (k : Nat) : difAt c a b k = difAt c b a k := by
  unfold difAt
  congr 1
  exact decide_eq_decide.2 ⟨fun h => h.symm, fun h => h.symm⟩
theorem difAt_same (c : CoordD) (a : Int) (k : Nat) : difAt c a a k = false := by unfold difAt; simp
theorem difL_symm {c : CoordD} {a b : Int} (h : okSn c a b = true) : difL c b a = difL c a b := by
  have h' : okSn c b a = true := by unfold okSn at h ⊢; simp only [Bool.and_eq_true] at h ⊢; exact ⟨⟨h.1.1, h.2⟩, h.1.2⟩
  rw [difL_yes h, difL_yes h']
  unfold difTo
  congr 1
  exact List.filter_congr fun k _ => difAt_symm c b a k
theorem difL_same (c : CoordD) (a : Int) : difL c a a = [] := by
  unfold difL difTo
  split
  · rw [List.map_eq_nil_iff, List.filter_eq_nil_iff]
    intro k _ h
    rw [difAt_same] at h; cases h
  · rfl
theorem difL_has {c : CoordD} {a b : Int} (h : okSn c a b = true) {k : Nat} (hk : k < 3) : hasB (k : Int) (difL c a b) = difAt c a b k := by
  rw [difL_yes h, Bool.eq_iff_iff]
  unfold hasB
  rw [decide_eq_true_eq, difTo_mem]
  constructor
  · rintro ⟨j, h1, h2, h3⟩
    have : k = j := by omega
    rw [this]; exact h3
  · intro h3; exact ⟨k, hk, rfl, h3⟩
theorem difTo_asc (c : CoordD) (a b : Int) (n : Nat) : (difTo c a b n).Pairwise (· < ·) := by
  unfold difTo
  rw [List.pairwise_map]
  refine (List.Pairwise.sublist (List.filter_sublist) List.pairwise_lt_range).imp ?_
  intro x y h; omega
/-- a shard that differs by one transaction has a part in it -/
theorem dif_part {c : CoordD} {a : Nat} {x : Int} (ha : a < c.order.length) (h : x ∈ difL c a ((a : Int) + 1)) : ∃ (j : Nat) (hj : j < (c.txns.getD c.order[a].toNat ⟨[], [], 0⟩).parts.length), ((c.txns.getD c.order[a].toNat ⟨[], [], 0⟩).parts[j]).shard = x := by
  unfold difL at h
  split at h
  · obtain ⟨k, hk, rfl, hd⟩ := difTo_mem.1 h
    unfold difAt at hd
    rw [show ((a : Int) + 1).toNat = a + 1 by omega, show ((a : Int)).toNat = a by omega, refsTo_succ ha] at hd
    unfold stepR at hd
    by_cases h0 : 0 ≤ partIx (c.txns.getD c.order[a].toNat ⟨[], [], 0⟩).parts (k : Int)
    · clear hd
      unfold partIx idxI at h0
      by_cases hm : (k : Int) ∈ (c.txns.getD c.order[a].toNat ⟨[], [], 0⟩).parts.map (·.shard)
      · obtain ⟨p, hp, he⟩ := List.mem_map.1 hm
        obtain ⟨j, hj, rfl⟩ := List.getElem_of_mem hp
        exact ⟨j, hj, he⟩
      · rw [if_neg hm] at h0; omega
    · rw [if_neg h0] at hd; simp at hd
  · cases h

end Go.Proofs.Ytgbkjfhmbchiiaa
