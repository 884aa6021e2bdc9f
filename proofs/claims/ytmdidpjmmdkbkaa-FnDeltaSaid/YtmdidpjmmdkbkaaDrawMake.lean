/-
  The walks of DrawDeltaMake and sameOps: two short texts; whether two rows of operations read alike. No condition but the reach of what is read.
-/
import Derived.Test.YtmdidpjmmdkbkaaDrawDelta
import Derived.Test.YtmdidpjmmdkbkaaInt
namespace Go.Proofs.Ytmdidpjmmdkbkaa
set_option linter.unusedVariables false
set_option linter.unusedSimpArgs false
open Go.RowKit

set_option maxHeartbeats 800000 in
set_option maxRecDepth 100000 in
theorem sameOps_any (A A' : Option Addr) (n c c' : Nat) (xs : List OpD) (w : World) (lo hi lo' hi' : Nat) (hn : n ≤ 9223372036854775807) (h : Fl co w lo hi A n xs) (h' : Fl co w lo' hi' A' n xs) :
    Calls Try.prog 13 #[.slice A n c, .slice A' n c'] w fun e w' => e = .returned (.bool true) ∧ ∃ m, w' = w.drewN m := by
  have HI := Lib.hid h
  have HJ := Lib.hid h'
  clear h h'
  go_enter Try.func13, Try.ntmps13
  go_wp2_with fail
  go_loopw [5] (fun i wr => ∃ k : Nat, k ≤ n ∧ i = .int .i64 k ∧ ∃ m, wr = w.drewN m) (fun i _ => n - (intOf i).toNat)
  case atStart => exact ⟨0, Nat.zero_le _, rfl, 0, rfl⟩
  case round =>
    obtain ⟨k, hk, rfl, m, rfl⟩ := hrel
    by_cases hlt : k < n
    · obtain ⟨b, o, hl, rfl, _, _, hc1, hc2, hc3⟩ := fl_op HI.out hlt
      obtain ⟨b', o', hl', rfl, _, _, hc1', hc2', hc3'⟩ := fl_op HJ.out hlt
      go_wp2_with fail
      go_quiet (fail)
      go_wp2_with fail
      exact ⟨⟨k + 1, by omega, by go_num, m + nq, rfl⟩, by simp [intOf]; omega⟩
    · have hkn : k = n := by omega
      subst hkn
      go_wp2_with fail
      go_ret
      exact ⟨rfl, m, rfl⟩

/-- what is left behind the draw of two texts -/
def DrawnM (w w' : World) (e : Ending) : Prop := ∃ s t : ByteArray, s.size ≤ 9 ∧ t.size ≤ 9 ∧ Below w.heap.size w w' ∧ e = .returned (.tuple #[.string s, .string t])

set_option maxHeartbeats 800000 in
theorem drawMake_any (A : Option Addr) (n c : Nat) (zs : List Int) (w : World) (h : IsRow .u8 w A n c zs) :
    Calls Try.prog 10 #[.slice A n c] w fun e w' => DrawnM w w' e := by
  have HI := Lib.hid h
  clear h
  go_enter Try.func10, Try.ntmps10
  go_wp2_with fail
  refine (l6Open_any _ _ _ zs _ HI.out).mono ?_
  rintro e w1 ⟨hR1, hb1, hs1, rfl⟩
  have HR1 := Lib.hid hR1
  have HB1 := Lib.hid hb1
  have hlt1 := hR1.lt
  clear hR1 hb1 hs1
  go_wp2_with fail
  refine (l91Text_any w.heap.size 0 _ (by omega) HR1.out).mono ?_
  rintro e w2 ⟨s, hs, hD2, rfl⟩
  have HD2 := Lib.hid hD2
  clear hD2
  go_wp2_with fail
  refine (l91Text_any w.heap.size 20 _ (by omega) HD2.out.2).mono ?_
  rintro e w3 ⟨t, ht, hD3, rfl⟩
  have HD3 := Lib.hid (HD2.out.tr hD3)
  have HB3 : Hid (Below w.heap.size w w3) := HB1.out.grown HD3.out.1 HB1.out.size (fun q hq => by injection hq with hq; omega)
  clear hD3
  by_cases h2 : 2 < s.size
  · go_wp2_with fail
    refine (pick_any w.heap.size 40 2 _ (by omega) HD3.out.2).mono ?_
    rintro e w4 ⟨r4, hr4, hR4, hg4, -, rfl⟩
    have HB4 : Hid (Below w.heap.size w w4) := HB3.out.grown hg4 HB3.out.size (fun q hq => by injection hq with hq; omega)
    clear hR4 hg4 hr4
    by_cases hr0 : r4 = 0
    · have hd : (r4 == 0) = true := by simp [hr0]
      clear hr0
      have h3 : (1 : Int) ≤ (s.size : Int) := by omega
      have hn1 : ¬ (9223372036854775807 < s.size - 1 + min 1 s.size) := by omega
      have hn2 : s.size - 1 + min 1 s.size ≤ 9223372036854775807 := by omega
      go_wp2_with fail
      go_quiet (fail)
      go_wp2_with fail
      go_ret2
      exact ⟨s, _, hs, by rw [ByteArray.size_append, ByteArray.size_extract, ByteArray.size_extract]; omega, below_drewN HB4.out nq, rfl⟩
    · have hd : (r4 == 0) = false := by simp [hr0]
      clear hr0
      go_wp2_with fail
      go_ret2
      exact ⟨s, t, hs, ht, HB4.out, rfl⟩
  · go_wp2_with fail
    go_ret2
    exact ⟨s, t, hs, ht, HB3.out, rfl⟩

end Go.Proofs.Ytmdidpjmmdkbkaa
