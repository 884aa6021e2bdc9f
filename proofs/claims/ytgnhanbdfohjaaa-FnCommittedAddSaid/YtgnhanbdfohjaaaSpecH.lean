/-
  The walks of ShardValid, ShardAsk of the reference. Condition: lengths fit an int64.
-/
import Derived.Test.YtgnhanbdfohjaaaSpecG
namespace Go.Proofs.Ytgnhanbdfohjaaa
set_option linter.unusedVariables false
set_option linter.unusedSimpArgs false
open Go.RowKit

set_option maxRecDepth 100000 in
set_option maxHeartbeats 800000 in
theorem specValid_any (A : Option Addr) (n c : Nat) (rs : List RecC) (w : World) (lo : Nat) (hn : n ≤ c) (hc : c ≤ 9223372036854775807) (hlo : lo ≤ w.heap.size) (h : Recs w lo A n rs) :
    Calls Try.prog 15 #[.agg #[.slice A n c]] w fun e w' => e = .returned (.bool (shardB (abs rs))) ∧ Below w.heap.size w w' := by
  have HR := Lib.hid h
  have hlo1 : lo ≤ (w.alloc (.cells #[.slice A n c] 25)).heap.size := by simp; omega
  clear h
  go_enter Try.func15, Try.ntmps15
  go_wp2_with fail
  refine (l21Recover_any A n c rs _ lo hn hc hlo1 (HR.out.alloc _)).mono ?_
  rintro e w2 ⟨A1, c1, A2, c2, -, hb, rfl⟩
  have HB : Hid (Below w.heap.size w w2) := ((Below.refl _ _).alloc (Nat.le_refl _) _).trans (hb.mono (by simp))
  have hsz := HB.out.size
  clear hb
  go_wp2_with fail
  go_ret
  exact ⟨rfl, HB.out.alloc hsz _⟩

set_option maxRecDepth 100000 in
set_option maxHeartbeats 800000 in
theorem specAsk_any (A : Option Addr) (n c : Nat) (rs : List RecC) (t : Int) (w : World) (lo : Nat) (hn : n ≤ c) (hc : c ≤ 9223372036854775807) (hlo : lo ≤ w.heap.size) (h : Recs w lo A n rs) :
    Calls Try.prog 32 #[.agg #[.slice A n c], .int .i64 t] w fun e w' => e = .returned (.int .i64 (askV (abs rs) t)) ∧ Below w.heap.size w w' := by
  have HR := Lib.hid h
  have hlo1 : lo ≤ (w.alloc (.cells #[.slice A n c] 25)).heap.size := by simp; omega
  have hn63 : n ≤ 9223372036854775807 := Nat.le_trans hn hc
  have hk := cell_of_row _ _ 0 _ _ _ (heap_alloc_new w (.cells #[.slice A n c] 25))
  have HK := Lib.hid hk
  clear h hk
  go_enter Try.func32, Try.ntmps32
  go_wp2_with fail
  refine (specValid_any A n c rs _ lo hn hc hlo1 (HR.out.alloc _)).mono ?_
  rintro e w2 ⟨rfl, hb⟩
  have HR2 := Lib.hid ((HR.out.alloc _).bel hb)
  have HB : Hid (Below w.heap.size w w2) := ((Below.refl _ _).alloc (Nat.le_refl _) _).trans (hb.mono (by simp))
  have hc2 : w2.cell? ⟨w.heap.size, 0, none⟩ = some (.slice A n c) := (hb.cell (by simp)).trans HK.out
  have hsz := hb.size
  clear hb
  rcases hv : shardB (abs rs) with _ | _
  · have E := Lib.hid (askV_no (t := t) (.inl hv))
    go_wp2_with fail
    go_ret
    exact ⟨ret_int E.out.symm, HB.out⟩
  · rcases ht : txB t with _ | _
    · have E := Lib.hid (askV_no (rs := abs rs) (.inr ht))
      go_wp2_with (go_at_call 45; refine (l12Txn_any _ _).mono ?_; rintro e w' ⟨rfl, rfl⟩)
      go_ret
      exact ⟨ret_int E.out.symm, HB.out⟩
    · have E := Lib.hid (askV_yes hv ht)
      go_wp2_with (first | (go_at_call 45; refine (l12Txn_any _ _).mono ?_; rintro e w' ⟨rfl, rfl⟩) | (go_at_call 46; refine (l21Ask_any A n c rs t _ lo hn63 HR2.out).mono ?_; rintro e w' ⟨rfl, rfl⟩))
      go_ret
      exact ⟨ret_int E.out.symm, HB.out⟩

end Go.Proofs.Ytgnhanbdfohjaaa
