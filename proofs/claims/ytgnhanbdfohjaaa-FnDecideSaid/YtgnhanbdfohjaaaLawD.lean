/-
  Words for the walks of the laws on decisions: how long a decided shard is. No condition.
-/
import Derived.Test.YtgnhanbdfohjaaaLawS
namespace Go.Proofs.Ytgnhanbdfohjaaa
set_option linter.unusedVariables false
set_option linter.unusedSimpArgs false
open Go.RowKit

theorem dec_mem {rs : List Rec} {t : Int} {commit : Bool} : ∀ r ∈ decL rs t commit, r ∈ rs ∨ r.us = [] := by
  intro r hr
  unfold decL at hr
  split at hr
  · split at hr
    · exact .inl hr
    · unfold addL at hr
      split at hr
      · rcases List.mem_append.1 hr with h | h
        · exact .inl h
        · rw [List.mem_singleton] at h; subst h; exact .inr rfl
      · exact .inl hr
  · cases hr
theorem dec_len (rs : List Rec) (t : Int) (commit : Bool) : (decL rs t commit).length ≤ rs.length + 1 := by
  unfold decL
  split
  · split
    · omega
    · unfold addL; split
      · simp
      · omega
  · simp
theorem dec_n {rs rs2 : List RecC} {t : Int} {commit : Bool} {W W' : World} {lo lo' n n2 : Nat} {A A' : Option Addr} (h : abs rs2 = decL (abs rs) t commit) (h2 : Recs W' lo' A' n2 rs2) (h1 : Recs W lo A n rs) (hn : n ≤ 31) : n2 ≤ 32 := by
  have := dec_len (abs rs) t commit
  rw [← h, abs_len, abs_len, h1.1.1, h2.1.1] at this
  omega
theorem dec_ns {rs rs2 : List RecC} {t : Int} {commit : Bool} {W W' : World} {lo lo' n n2 : Nat} {A A' : Option Addr} (h : abs rs2 = decL (abs rs) t commit) (h2 : Recs W' lo' A' n2 rs2) (h1 : Recs W lo A n rs) (hs : ∀ r ∈ rs, r.n ≤ 4) : ∀ r ∈ rs2, r.n ≤ 1000 := by
  intro r hr
  have hm : r.ab ∈ decL (abs rs) t commit := by rw [← h]; exact List.mem_map_of_mem hr
  have e : r.us.length = r.n := (h2.2 r hr).1.1
  rcases dec_mem _ hm with hx | hx
  · obtain ⟨q, hq, he⟩ := List.mem_map.1 hx
    have e2 : q.us.length = q.n := (h1.2 q hq).1.1
    have e3 : q.us = r.us := congrArg Rec.us he
    have := hs q hq
    rw [e3] at e2; omega
  · have e3 : r.us = [] := hx
    rw [e3] at e
    simp at e; omega
theorem abs_n {rs rs2 : List RecC} {W W' : World} {lo lo' n n2 : Nat} {A A' : Option Addr} (h : abs rs2 = abs rs) (h2 : Recs W' lo' A' n2 rs2) (h1 : Recs W lo A n rs) : n2 = n := by
  have : (abs rs2).length = (abs rs).length := by rw [h]
  rw [abs_len, abs_len, h1.1.1, h2.1.1] at this
  exact this
theorem abs_ns {rs rs2 : List RecC} {W W' : World} {lo lo' n n2 : Nat} {A A' : Option Addr} (h : abs rs2 = abs rs) (h2 : Recs W' lo' A' n2 rs2) (h1 : Recs W lo A n rs) (hs : ∀ r ∈ rs, r.n ≤ 1000) : ∀ r ∈ rs2, r.n ≤ 1000 := by
  intro r hr
  have hm : r.ab ∈ abs rs := by rw [← h]; exact List.mem_map_of_mem hr
  have e : r.us.length = r.n := (h2.2 r hr).1.1
  obtain ⟨q, hq, he⟩ := List.mem_map.1 hm
  have e2 : q.us.length = q.n := (h1.2 q hq).1.1
  have e3 : q.us = r.us := congrArg Rec.us he
  have := hs q hq
  rw [e3] at e2; omega

end Go.Proofs.Ytgnhanbdfohjaaa
