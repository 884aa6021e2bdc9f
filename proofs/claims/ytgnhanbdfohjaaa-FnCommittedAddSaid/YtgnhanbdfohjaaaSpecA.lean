/-
  The walks of l12Txn, l21Ask, l21Updates of the reference: a transaction's state and updates among records. Condition: lengths fit an int64.
-/
import Derived.Test.YtgnhanbdfohjaaaK3
import Derived.Test.YtgnhanbdfohjaaaK1
namespace Go.Proofs.Ytgnhanbdfohjaaa
set_option linter.unusedVariables false
set_option linter.unusedSimpArgs false
open Go.RowKit

set_option maxHeartbeats 400000 in
theorem l12Txn_any (n : Int) (w : World) : Calls Try.prog 45 #[.int .i64 n] w fun e w' => e = .returned (.bool (txB n)) ∧ w = w' := by
  go_enter Try.func45, Try.ntmps45
  go_wp2_with (go_at_call 64; refine (l6In_any _ _ _ _).mono ?_; rintro e w' ⟨rfl, rfl⟩)
  go_ret
  exact ⟨rfl, rfl⟩

theorem askK_snoc (rs : List Rec) (r : Rec) (t : Int) : askK (rs ++ [r]) t = if r.txn = t then r.kind else askK rs t := by
  unfold askK; rw [lastRc_snoc]; by_cases h : r.txn = t
  · rw [if_pos h, if_pos h]; rfl
  · rw [if_neg h, if_neg h]
theorem abs_take_succ {rs : List RecC} {k : Nat} (h : k < rs.length) : abs (rs.take (k + 1)) = abs (rs.take k) ++ [rs[k].ab] := by
  rw [List.take_succ_eq_append_getElem h]; unfold abs; rw [List.map_append]; rfl

set_option maxHeartbeats 400000 in
theorem l21Ask_any (A : Option Addr) (n c : Nat) (rs : List RecC) (t : Int) (w : World) (lo : Nat) (hn : n ≤ 9223372036854775807) (h : Recs w lo A n rs) :
    Calls Try.prog 46 #[.slice A n c, .int .i64 t] w fun e w' => e = .returned (.int .i64 (askK (abs rs) t)) ∧ w = w' := by
  have HI := Lib.hid h
  clear h
  go_enter Try.func46, Try.ntmps46
  go_wp2_with fail
  go_loop [5, 6] (fun s i => ∃ k : Nat, k ≤ n ∧ i = .int .i64 k ∧ s = .int .i64 (askK (abs (rs.take k)) t)) (fun _ i => n - (intOf i).toNat)
  case atStart => exact ⟨0, Nat.zero_le _, rfl, rfl⟩
  case round =>
    obtain ⟨k, hk, rfl, rfl⟩ := hrel
    by_cases hlt : k < n
    · obtain ⟨b, o, hll, rfl, _, _, hc0, hc1, hc2, _⟩ := HI.out.at_ hlt
      have hs : Hid (askK (abs (rs.take (k + 1))) t = if rs[k].txn = t then rs[k].kind else askK (abs (rs.take k)) t) := by
        show _ = _
        rw [abs_take_succ hll, askK_snoc]; rfl
      rcases Decidable.em (rs[k].txn = t) with he | he
      · have hs' : Hid (askK (abs (rs.take (k + 1))) t = rs[k].kind) := by show _ = _; rw [hs.out, if_pos he]
        clear hs
        go_wp2_with fail
        exact ⟨⟨k + 1, by omega, by go_num, by rw [hs'.out]⟩, by simp [intOf]; omega⟩
      · have hs' : Hid (askK (abs (rs.take (k + 1))) t = askK (abs (rs.take k)) t) := by show _ = _; rw [hs.out, if_neg he]
        have hd : (rs[k].txn == t) = false := by simpa using he
        clear hs he
        go_wp2_with fail
        exact ⟨⟨k + 1, by omega, by go_num, by rw [hs'.out]⟩, by simp [intOf]; omega⟩
    · have hkn : k = n := by omega
      subst hkn
      go_wp2_with fail
      go_ret
      exact ⟨ret_int (by rw [List.take_of_length_le (by rw [HI.out.1.1]; exact Nat.le_refl _)]), rfl⟩

theorem prepU_snoc (rs : List Rec) (r : Rec) (t : Int) (h : ∀ x ∈ rs, ¬ (x.txn = t ∧ x.kind = 1)) (l : List Rec) : prepU (rs ++ r :: l) t = if r.txn = t ∧ r.kind = 1 then r.us else prepU (rs ++ [r] ++ l) t := by
  by_cases hr : r.txn = t ∧ r.kind = 1
  · rw [if_pos hr]
    unfold prepU
    rw [List.find?_append]
    have h0 : List.find? (fun x => decide (x.txn = t) && decide (x.kind = 1)) rs = none := by
      rw [List.find?_eq_none]; intro x hx; simpa using h x hx
    rw [h0, Option.none_or, List.find?_cons_of_pos (by simp [hr])]
  · rw [if_neg hr, List.append_assoc, List.singleton_append]
theorem prepU_no {rs : List Rec} {t : Int} (h : ∀ x ∈ rs, ¬ (x.txn = t ∧ x.kind = 1)) : prepU rs t = [] := by
  unfold prepU
  have h0 : List.find? (fun x => decide (x.txn = t) && decide (x.kind = 1)) rs = none := by
    rw [List.find?_eq_none]; intro x hx; simpa using h x hx
  rw [h0]

/-- updates in memory, handed back -/
def UpdRet (us : List Upd) (lo : Nat) (w : World) (e : Ending) (w' : World) : Prop :=
  ∃ A n c, e = .returned (.slice A n c) ∧ n ≤ c ∧ c ≤ 9223372036854775807 ∧ FlH cu w' lo A n us ∧ Below w.heap.size w w'

set_option maxRecDepth 100000 in
set_option maxHeartbeats 800000 in
theorem l21Updates_any (A : Option Addr) (n c : Nat) (rs : List RecC) (t : Int) (w : World) (lo : Nat) (hn : n ≤ 9223372036854775807) (hlo : lo ≤ w.heap.size) (h : Recs w lo A n rs) :
    Calls Try.prog 76 #[.slice A n c, .int .i64 t] w fun e w' => UpdRet (prepU (abs rs) t) lo w e w' := by
  have HI := Lib.hid h
  clear h
  go_enter Try.func76, Try.ntmps76
  go_wp2_with fail
  go_loop [5] (fun i => ∃ k : Nat, k ≤ n ∧ i = .int .i64 k ∧ ∀ x ∈ abs (rs.take k), ¬ (x.txn = t ∧ x.kind = 1)) (fun i => n - (intOf i).toNat)
  case atStart => exact ⟨0, Nat.zero_le _, rfl, fun x hx => by cases hx⟩
  case round =>
    obtain ⟨k, hk, rfl, hno⟩ := hrel
    have HN := Lib.hid hno
    clear hno
    by_cases hlt : k < n
    · obtain ⟨b, o, hll, rfl, _, _, hc0, hc1, hc2, hin⟩ := HI.out.at_ hlt
      have HR := Lib.hid hin
      clear hin
      have hnext : Hid (¬ (rs[k].txn = t ∧ rs[k].kind = 1) → ∀ x ∈ abs (rs.take (k + 1)), ¬ (x.txn = t ∧ x.kind = 1)) := by
        intro hne x hx
        rw [abs_take_succ hll] at hx
        rcases List.mem_append.1 hx with hx | hx
        · exact HN.out x hx
        · rw [List.mem_singleton] at hx; subst hx; exact hne
      have hfound : Hid (rs[k].txn = t ∧ rs[k].kind = 1 → prepU (abs rs) t = rs[k].us) := by
        intro hy
        have e : abs rs = abs (rs.take k) ++ rs[k].ab :: abs (rs.drop (k + 1)) := by
          unfold abs
          rw [← List.map_cons, ← List.map_append, List.getElem_cons_drop, List.take_append_drop]
        rw [e, prepU_snoc _ _ _ HN.out, if_pos (show rs[k].ab.txn = t ∧ rs[k].ab.kind = 1 from hy)]; rfl
      rcases Decidable.em (rs[k].txn = t) with he | he
      · rcases Decidable.em (rs[k].kind = 1) with h1 | h1
        · have hf := Lib.hid (hfound.out ⟨he, h1⟩)
          clear hfound hnext
          go_wp2_with fail
          go_ret
          exact ⟨_, _, _, rfl, HR.out.2.1, HR.out.2.2, by rw [hf.out]; exact HR.out.1, Below.refl _ _⟩
        · have hnx := Lib.hid (hnext.out (fun h => h1 h.2))
          have hd : (rs[k].kind == 1) = false := by simpa using h1
          clear hfound hnext h1
          go_wp2_with fail
          exact ⟨⟨k + 1, by omega, by go_num, hnx.out⟩, by simp [intOf]; omega⟩
      · have hnx := Lib.hid (hnext.out (fun h => he h.1))
        have hd : (rs[k].txn == t) = false := by simpa using he
        clear hfound hnext he
        go_wp2_with fail
        exact ⟨⟨k + 1, by omega, by go_num, hnx.out⟩, by simp [intOf]; omega⟩
    · have hkn : k = n := by omega
      subst hkn
      have hno := HN.out
      rw [List.take_of_length_le (by rw [HI.out.1.1]; exact Nat.le_refl _)] at hno
      have hp := Lib.hid (prepU_no hno)
      clear hno HN
      go_wp2_with fail
      go_ret
      exact ⟨_, 0, 0, rfl, Nat.le_refl _, by omega, by rw [hp.out]; exact FlH.nil _ _ _ _, (Below.refl _ _).alloc (Nat.le_refl _) _⟩

end Go.Proofs.Ytgnhanbdfohjaaa
