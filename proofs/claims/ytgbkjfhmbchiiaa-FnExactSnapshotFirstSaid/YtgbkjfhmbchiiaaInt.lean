/-
  The walks of toIntS, eqIntS: a copy of a slice of ints in new memory; whether two slices of ints read alike. No condition but the reach of what is read.
-/
import Derived.Test.YtgbkjfhmbchiiaaFill
import Derived.Deep.QuietTactic
import Derived.BigQuiet
namespace Go.Proofs.Ytgbkjfhmbchiiaa
set_option linter.unusedVariables false
set_option linter.unusedSimpArgs false
open Go.RowKit

theorem Try.infoInt : (Try.prog.info? 3).map (fun i => (i.zero, i.size, i.bytes)) = some (some (.int .i64 0), 1, 8) := by kernel_rfl

theorem own_drew {w : World} {base size n : Nat} {e : TypeId} {v : Value} {xs : List Value} (h : w.ownsRow base e size v n xs) (k : Nat) : (w.drewN k).ownsRow base e size v n xs := h

set_option maxHeartbeats 400000 in
theorem toIntS_any (A : Option Addr) (n c : Nat) (xs : List Int) (w : World) (lo hi : Nat) (hn : n * 8 ≤ 140737488351232) (hh : hi ≤ w.heap.size) (h : Ints w lo hi A n xs) :
    Calls Try.prog 34 #[.slice A n c] w fun e w' => ∃ v, e = .returned v ∧ w'.ownsRow w.heap.size 3 1 v n (xs.flatMap ci) ∧ Below w.heap.size w w' := by
  have HI := Lib.hid h
  clear h
  obtain ⟨i0, hi0, hz0, hz1, hz2⟩ := info_parts Try.infoInt
  have hmk := run_make_rowN (P := Try.prog) 24 3 i0 (.int .i64 0) Try.underlying24 hi0 hz0 n (by rw [hz2]; omega) (by unfold maxLen; omega)
  rw [hz1, Nat.mul_one] at hmk
  have hml := made_cells [.int .i64 0] (by simp) n
  simp only [List.length_singleton, Nat.mul_one] at hml
  have hown : ∀ W : World, (W.alloc (.cells (madeCells #[.int .i64 0] n) 3)).ownsRow W.heap.size 3 1 (.slice (some ⟨W.heap.size, 0, none⟩) n n) n (fillC ci [.int .i64 0] xs n 0) := fun W => by
    have := World.ownsRow_lit (e := 3) (size := 1) W (madeCells #[.int .i64 0] n) n (Nat.le_refl W.heap.size) (by unfold maxLen; omega) (by simp [madeCells])
    rw [hml] at this
    simpa [fillC] using this
  have HO := Lib.hid hown
  clear hown hml hi0 hz0 hz1 hz2
  go_enter Try.func34, Try.ntmps34
  go_wp2
  go_loopw [4] (fun i wr => ∃ k : Nat, k ≤ n ∧ i = .int .i64 k ∧ wr.ownsRow w.heap.size 3 1 (.slice (some ⟨w.heap.size, 0, none⟩) n n) n (fillC ci [.int .i64 0] xs n k) ∧ Below w.heap.size w wr ∧ w.heap.size < wr.heap.size) (fun i _ => n - (intOf i).toNat)
  case atStart => exact ⟨0, Nat.zero_le _, rfl, HO.out w, (Below.refl _ _).alloc (Nat.le_refl _) _, by simp⟩
  case round =>
    obtain ⟨k, hk, rfl, hown, hb, hsz⟩ := hrel
    have HOW := Lib.hid hown
    by_cases hlt : k < n
    · obtain ⟨b, o, hl, rfl, _, hbh, hc⟩ := (HI.out.below hb hh).int hlt
      have hcg : wr.cell? ⟨w.heap.size, k, none⟩ = some (.int .i64 0) := by
        rw [hown.cellAt k (by omega)]
        unfold fillC
        rw [List.getElem?_append_right (by rw [flat_len ci 1 ci_len, List.length_take]; omega), flat_len ci 1 ci_len, List.length_take, Nat.min_eq_left (by omega)]
        have e : (List.replicate (n - k) [Value.int .i64 0]) = [Value.int .i64 0] :: List.replicate (n - (k + 1)) [Value.int .i64 0] := by
          rw [← List.replicate_succ]; congr 1; omega
        rw [e]; simp
      have hfg := hown.frozenAt k
      have hst := (hown.stored k (.int .i64 xs[k]))
      have hstep := fillC_step ci [.int .i64 0] 1 ci_len rfl xs n k HI.out.1 hlt hl
      simp only [ci, setMany, Nat.mul_one] at hstep
      rw [hstep] at hst
      have HST := Lib.hid hst
      clear hst hown hstep
      go_wp2
      go_roundw
      case rel => exact ⟨k + 1, by omega, by go_num, HST.out.1, hb.setCell (Nat.le_refl _) _, by simpa using hsz⟩
      case measure => simp [intOf]; omega
    · have hkn : k = n := by omega
      subst hkn
      go_wp2
      go_ret
      exact ⟨_, rfl, by rw [← fillC_all ci [.int .i64 0] xs k HI.out.1]; exact HOW.out, hb⟩

set_option maxHeartbeats 400000 in
theorem eqIntS_any (A A' : Option Addr) (n c c' : Nat) (xs : List Int) (w : World) (lo hi lo' hi' : Nat) (hn : n ≤ 9223372036854775807) (h : Ints w lo hi A n xs) (h' : Ints w lo' hi' A' n xs) :
    Calls Try.prog 22 #[.slice A n c, .slice A' n c'] w fun e w' => e = .returned (.bool true) ∧ ∃ m, w' = w.drewN m := by
  have HI := Lib.hid h
  have HJ := Lib.hid h'
  clear h h'
  go_enter Try.func22, Try.ntmps22
  go_wp2
  go_loopw [5] (fun i wr => ∃ k : Nat, k ≤ n ∧ i = .int .i64 k ∧ ∃ m, wr = w.drewN m) (fun i _ => n - (intOf i).toNat)
  case atStart => exact ⟨0, Nat.zero_le _, rfl, 0, rfl⟩
  case round =>
    obtain ⟨k, hk, rfl, m, rfl⟩ := hrel
    by_cases hlt : k < n
    · obtain ⟨b, o, hl, rfl, _, _, hc⟩ := HI.out.int hlt
      obtain ⟨b', o', hl', rfl, _, _, hc'⟩ := HJ.out.int hlt
      have hd : (!(xs[k] == xs[k])) = false := by simp
      go_wp2
      go_quiet (fail)
      go_wp2
      exact ⟨⟨k + 1, by omega, by go_num, m + nq, rfl⟩, by simp [intOf]; omega⟩
    · have hkn : k = n := by omega
      subst hkn
      go_wp2
      go_ret
      exact ⟨rfl, m, rfl⟩

end Go.Proofs.Ytgbkjfhmbchiiaa
