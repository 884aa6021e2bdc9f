/-
  The walks of l92Txn and of a round of l92Shard of the reference: a drawn transaction; a shard that is drawn record by record stays valid. Condition: the reader's place is small.
-/
import Derived.Test.YtgnhanbdfohjaaaSpecL
import Derived.Test.YtgnhanbdfohjaaaDrawUpds
namespace Go.Proofs.Ytgnhanbdfohjaaa
set_option linter.unusedVariables false
set_option linter.unusedSimpArgs false
open Go.RowKit
attribute [local go_sem ↓] Go.wp_at_zero Go.wp_at_succ

theorem asc_len {us : List Upd} : ∀ {lo : Int}, Asc lo us → lo ≤ 4 → (us.length : Int) ≤ 4 - lo := by
  induction us with
  | nil => intro lo _ h; simp; omega
  | cons u us ih =>
    intro lo h hl
    obtain ⟨h1, h2, h3⟩ := h
    have := ((uokB_iff u).1 h1).1
    have := ih h3 (by omega)
    simp; omega
theorem shard_short {rs : List Rec} (h : shardB rs = true) : rs.length ≤ 30 ∧ ∀ r ∈ rs, r.us.length ≤ 4 := by
  unfold shardB at h
  simp only [Bool.and_eq_true, decide_eq_true_eq] at h
  refine ⟨h.2, fun r hr => ?_⟩
  have hI := (hist_of h.1).inv
  rcases (hI.rec_ r hr).2 with hq | hq
  · have := asc_len (updsB_asc hq.2).1 (by omega)
    omega
  · rw [hq.2]; simp
theorem recs_short {w : World} {lo n : Nat} {A : Option Addr} {rs : List RecC} (hR : Recs w lo A n rs) (h : shardB (abs rs) = true) : n ≤ 30 ∧ ∀ r ∈ rs, r.n ≤ 4 := by
  have hs := shard_short h
  refine ⟨by rw [← hR.1.1, ← abs_len]; exact hs.1, fun r hr => ?_⟩
  have := hs.2 r.ab (List.mem_map.2 ⟨r, hr, rfl⟩)
  rw [← (hR.2 r hr).1.1]; exact this
theorem DrawT.bel {w wr w' : World} {g K : Nat} (h : DrawT w wr g K) (hb : Below wr.heap.size wr w') : DrawT w w' g K := ⟨grown_tr h.1 (grown_none hb _), h.2.grown (grown_none hb none) (fun q hq => by cases hq)⟩
theorem RowS.flH {α : Type} {f : α → List Value} {t : TypeId} {m : Nat} {w wr : World} {g k K : Nat} {v : Value} (h : RowS f t m w wr g k K v) :
    ∃ (A : Option Addr) (c : Nat) (vs : List α), v = .slice A k c ∧ k ≤ c ∧ c ≤ 9223372036854775807 ∧ FlH f wr w.heap.size A k vs := by
  obtain ⟨vs, h1, h3, h4⟩ := h
  obtain ⟨A, c, rfl, hc, hm, hr⟩ := Rd.of_own h3
  exact ⟨A, c, vs, rfl, hc, hm, h1, hr⟩
theorem shard_nil : shardB [] = true := by decide

set_option maxHeartbeats 800000 in
theorem l92Txn_any (g K : Nat) (w : World) (hK : K ≤ 1000000000 - 10) (h : Rdr w g K) :
    Calls Try.prog 40 #[.pointer (some ⟨g, 0, none⟩)] w fun e w' => ∃ x : Int, DrawT w w' g (K + 3) ∧ e = .returned (.int .i64 x) := by
  have HR := Lib.hid (DrawT.refl h)
  clear h
  go_enter Try.func40, Try.ntmps40
  go_wp2_with fail
  refine (pick_any g K 24 _ (by omega) HR.out.2).mono ?_
  rintro e w1 ⟨r1, hr1, hR1, hg1, -, rfl⟩
  have HS1 := Lib.hid (HR.out.step hg1 hR1)
  clear hR1 hg1 hr1 HR
  by_cases h0 : r1 = 0
  · have hd : (r1 == 0) = true := by simp [h0]
    clear h0
    have HA := Lib.hid (HS1.out.alloc (.cells #[.int .i64 (-1), .int .i64 11, .int .i64 12] 3))
    have hn := new_cell w1 #[.int .i64 (-1), .int .i64 11, .int .i64 12] 3
    have hbl : w1.heap.size < (w1.alloc (.cells #[.int .i64 (-1), .int .i64 11, .int .i64 12] 3)).heap.size := by simp
    go_wp2_with fail
    refine (pick_any g (K + 1) 3 _ (by omega) HA.out.2).mono ?_
    rintro e w2 ⟨r2, hr2, hR2, hg2, -, rfl⟩
    have HS2 := Lib.hid (HA.out.step hg2 hR2)
    obtain ⟨q, rfl⟩ := Int.eq_ofNat_of_zero_le hr2.1
    have hq := hr2.2 (by omega)
    have hc : w2.cell? ⟨w1.heap.size, q, none⟩ = (#[.int .i64 (-1), .int .i64 11, .int .i64 12] : Array Value)[q]? := by
      rw [← hn q]
      exact World.cell?_of_block (hg2.block _ hbl (fun e => by injection e with e; have e' : w1.heap.size = g := e; have := HS1.out.2.lt; omega))
    clear hR2 hg2 hr2 HA hn
    have hq3 : q = 0 ∨ q = 1 ∨ q = 2 := by omega
    rcases hq3 with rfl | rfl | rfl
    · have hc' : w2.cell? ⟨w1.heap.size, 0, none⟩ = some (.int .i64 (-1)) := hc
      clear hc
      go_wp2_with fail
      go_ret
      exact ⟨_, HS2.out.more (by omega), rfl⟩
    · have hc' : w2.cell? ⟨w1.heap.size, 1, none⟩ = some (.int .i64 11) := hc
      clear hc
      go_wp2_with fail
      go_ret
      exact ⟨_, HS2.out.more (by omega), rfl⟩
    · have hc' : w2.cell? ⟨w1.heap.size, 2, none⟩ = some (.int .i64 12) := hc
      clear hc
      go_wp2_with fail
      go_ret
      exact ⟨_, HS2.out.more (by omega), rfl⟩
  · have hd : (r1 == 0) = false := by simp [h0]
    clear h0
    go_wp2_with fail
    refine (pick_any g (K + 1) 5 _ (by omega) HS1.out.2).mono ?_
    rintro e w2 ⟨r2, hr2, hR2, hg2, -, rfl⟩
    have HS2 := Lib.hid (HS1.out.step hg2 hR2)
    clear hR2 hg2 hr2 HS1
    go_wp2_with fail
    go_ret
    exact ⟨_, HS2.out.more (by omega), rfl⟩

end Go.Proofs.Ytgnhanbdfohjaaa
