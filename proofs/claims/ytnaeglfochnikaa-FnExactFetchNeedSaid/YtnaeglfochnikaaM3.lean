/-
  The walks of inRange, of the program, and of l6In, of the reference: each answers whether a number lies in a range. No condition.
  The walks of DeltaApply, of the program and of the reference, and of what they call: each returns strD and okD of the base and the operations. Condition: the slice's length fits an int64.
  The walks of DeltaApply itself, of the program and of the reference. Condition: lengths fit an int64.
  The walks of l91Text, l91Ops and DrawDeltaApply: a short text; at most three operations in new memory. Condition: the reader's place is small.
-/
import Derived.Test.YtnaeglfochnikaaM1
import Derived.Test.YtnaeglfochnikaaM2
import Derived.Deep.QuietTactic
import Derived.BigQuiet
import Derived.Deep.DeepCutAuto
import Derived.Deep.CutBlock
import Derived.Laws.BytesString
namespace Go.Proofs.Ytnaeglfochnikaa
set_option linter.unusedVariables false
set_option linter.unusedSimpArgs false
open Go.RowKit

set_option maxHeartbeats 400000 in
theorem inRange_any (n a b : Int) (w : World) :
    Calls Try.prog 61 #[.int .i64 n, .int .i64 a, .int .i64 b] w fun e w' => e = .returned (.bool (inR n a b)) ∧ w = w' := by
  go_enter Try.func61, Try.ntmps61
  go_wp2
  all_goals go_ret
  · exact ⟨by simp [inR, *], rfl⟩
  · have h : ¬ a ≤ n := by omega
    exact ⟨by simp [inR, h], rfl⟩

set_option maxHeartbeats 400000 in
theorem l6In_any (n a b : Int) (w : World) :
    Calls Try.prog 83 #[.int .i64 n, .int .i64 a, .int .i64 b] w fun e w' => e = .returned (.bool (inR n a b)) ∧ w = w' := by
  go_enter Try.func83, Try.ntmps83
  go_wp2
  all_goals go_ret
  · exact ⟨by simp [inR, *], rfl⟩
  · have h : ¬ a ≤ n := by omega
    exact ⟨by simp [inR, h], rfl⟩

end Go.Proofs.Ytnaeglfochnikaa

namespace Go.Proofs.Ytnaeglfochnikaa
set_option linter.unusedVariables false
set_option linter.unusedSimpArgs false
open Go.RowKit

theorem fl_op {w : World} {lo hi n k : Nat} {A : Option Addr} {xs : List OpD} (h : Fl co w lo hi A n xs) (hk : k < n) :
    ∃ (b o : Nat) (hl : k < xs.length), A = some ⟨b, o, none⟩ ∧ lo ≤ b ∧ b < hi ∧ w.cell? ⟨b, o + k * 3, none⟩ = some (.int .i64 xs[k].at_) ∧
      w.cell? ⟨b, o + k * 3 + 1, none⟩ = some (.int .i64 xs[k].size) ∧ w.cell? ⟨b, o + k * 3 + 2, none⟩ = some (.string xs[k].text) := by
  obtain ⟨b, o, hl, rfl, g1, g2, hc⟩ := h.at_ co_len (by omega) hk
  exact ⟨b, o, hl, rfl, g1, g2, hc 0 _ rfl, hc 1 _ rfl, hc 2 _ rfl⟩

theorem fitB_spec {n : Int} {o : OpD} (h : ¬ o.size = 0) : fitB n o = (decide (o.text.size = 0) && inR o.at_ 0 (n - 1) && inR o.size 1 (n - o.at_)) := by
  rw [fitB_copy h, Bool.and_assoc]
  congr 1
  rw [Bool.eq_iff_iff]
  simp only [Bool.and_eq_true, inR_iff]
  omega

end Go.Proofs.Ytnaeglfochnikaa

namespace Go.Proofs.Ytnaeglfochnikaa
set_option linter.unusedVariables false
set_option linter.unusedSimpArgs false
open Go.RowKit

theorem outB_size {base : ByteArray} {o : OpD} (hb : base.size ≤ 8) (h : fitB base.size o = true) : (outB base o).size ≤ 8 := by
  by_cases hs : o.size = 0
  · rw [outB_zero hs]
    rw [fitB_zero hs] at h
    simp only [Bool.and_eq_true, inR_iff] at h
    omega
  · rw [outB_copy hs, ByteArray.size_extract]
    omega

/-- what both DeltaApply answer -/
def DRes (base : ByteArray) (xs : List OpD) : Ending := .returned (.tuple #[.string (strD base xs), .bool (okD base xs)])
theorem DRes_no {base : ByteArray} {xs : List OpD} (h : okD base xs = false) : Ending.returned (.tuple #[.string ⟨#[]⟩, .bool false]) = DRes base xs := by
  unfold DRes; rw [strD_no h, h]; rfl

theorem bytes_ext {a b : ByteArray} (h : a.data.toList = b.data.toList) : a = b := by
  cases a; cases b; simpa using h
theorem bytes_of_size {a : ByteArray} (h : a.size = 0) : a = ByteArray.empty := by
  apply bytes_ext
  have : a.data.toList.length = 0 := by simpa using h
  rw [List.eq_nil_of_length_eq_zero this]; rfl
theorem fit_bounds {base : ByteArray} {o : OpD} (h : fitB base.size o = true) : 0 ≤ o.at_ ∧ 0 ≤ o.size ∧ o.at_ + o.size ≤ base.size := by
  by_cases hs : o.size = 0
  · rw [fitB_zero hs] at h
    simp only [Bool.and_eq_true, decide_eq_true_eq] at h
    omega
  · rw [fitB_copy hs] at h
    simp only [Bool.and_eq_true, inR_iff] at h
    omega
theorem fit_text {base : ByteArray} {o : OpD} (h : fitB base.size o = true) : o.text.size ≤ 8 := by
  by_cases hs : o.size = 0
  · rw [fitB_zero hs] at h
    simp only [Bool.and_eq_true, inR_iff] at h
    omega
  · rw [fitB_copy hs] at h
    simp only [Bool.and_eq_true, decide_eq_true_eq] at h
    omega
theorem out_spec {base : ByteArray} {o : OpD} (h : fitB base.size o = true) : o.text ++ base.extract o.at_.toNat (o.at_ + o.size).toNat = outB base o := by
  by_cases hs : o.size = 0
  · rw [outB_zero hs]
    have e : base.extract o.at_.toNat (o.at_ + o.size).toNat = ByteArray.empty := bytes_of_size (by rw [ByteArray.size_extract, hs]; omega)
    rw [e, ByteArray.append_empty]
  · rw [outB_copy hs]
    rw [fitB_copy hs] at h
    simp only [Bool.and_eq_true, decide_eq_true_eq] at h
    rw [bytes_of_size h.1, ByteArray.empty_append]

end Go.Proofs.Ytnaeglfochnikaa

namespace Go.Proofs.Ytnaeglfochnikaa
set_option linter.unusedVariables false
set_option linter.unusedSimpArgs false
open Go.RowKit

theorem conv_one (W : World) (x : Int) : (convert 35 9 (.slice (some ⟨W.heap.size, 0, none⟩) 1 1)).run Try.prog (W.alloc (.cells #[.int .u8 x] 5)) = .ok (.string (strOfNums [x])) (W.alloc (.cells #[.int .u8 x] 5)) :=
  run_convert_bytes_arg _ 35 5 Try.underlying35 Try.underlying5 _ _ 1 1 [x] rfl (fun i hi => by
    have : i = 0 := by omega
    subst this
    rw [cell_of_row _ W.heap.size _ _ _ _ (heap_alloc_new W _)]; rfl) _ Try.underlying9

set_option maxHeartbeats 800000 in
theorem l91Text_any (g K : Nat) (w : World) (hK : K ≤ 1000000000 - 20) (h : Rdr w g K) :
    Calls Try.prog 80 #[.pointer (some ⟨g, 0, none⟩)] w fun e w' => ∃ s : ByteArray, s.size ≤ 9 ∧ DrawT w w' g (K + 20) ∧ e = .returned (.string s) := by
  have HR := Lib.hid (DrawT.refl h)
  clear h
  go_enter Try.func80, Try.ntmps80
  go_wp2_with fail
  refine (pick_any g K 9 _ (by omega) HR.out.2).mono ?_
  rintro e w1 ⟨r1, hr1, hR1, hg1, -, rfl⟩
  have HS1 := Lib.hid (HR.out.step hg1 hR1)
  obtain ⟨q1, rfl⟩ := Int.eq_ofNat_of_zero_le hr1.1
  have hq1 := hr1.2 (by omega)
  clear hR1 hg1 hr1 HR
  go_upto_if 10 with (go_at_call 54; refine (pick_any g (K + 1) 24 _ (by omega) HS1.out.2).mono ?_; rintro e w2 ⟨r2, -, hR2, hg2, -, rfl⟩; have HS2 := Lib.hid (HS1.out.step hg2 hR2); clear hR2 hg2 HS1)
  go_cut [4] (fun v wx => ∃ m : Nat, m ≤ 9 ∧ v = .int .i64 m ∧ DrawT w wx g (K + 3))
  case first =>
    by_cases hr0 : r2 = 0
    · have hd : (r2 == 0) = true := by simp [hr0]
      clear hr0
      go_wp2_with fail
      refine (pick_any g (K + 1 + 1) 2 _ (by omega) HS2.out.2).mono ?_
      rintro e w3 ⟨r3, hr3, hR3, hg3, -, rfl⟩
      have HS3 := Lib.hid (HS2.out.step hg3 hR3)
      obtain ⟨q3, rfl⟩ := Int.eq_ofNat_of_zero_le hr3.1
      have hq3 := hr3.2 (by omega)
      clear hR3 hg3 hr3 HS2
      go_wp2_with fail
      go_meet
      exact ⟨8 + q3, by omega, by go_num, HS3.out.more (by omega)⟩
    · have hd : (r2 == 0) = false := by simp [hr0]
      clear hr0
      go_wp2_with fail
      go_meet
      exact ⟨q1, by omega, rfl, HS2.out.more (by omega)⟩
  case rest =>
    clear HS2
    obtain ⟨m, hm, rfl, hS⟩ := hcut
    have HS := Lib.hid hS
    clear hS
    go_wp2_with fail
    go_loopw [3, 5] (fun t i wr => ∃ k : Nat, k ≤ m ∧ i = .int .i64 k ∧ (∃ s : ByteArray, t = .string s ∧ s.size ≤ k) ∧ DrawT w wr g (K + 3 + k)) (fun _ i _ => m - (intOf i).toNat)
    case atStart => exact ⟨0, Nat.zero_le _, rfl, ⟨_, rfl, by decide⟩, HS.out⟩
    case round =>
      obtain ⟨k, hk, rfl, ⟨s, rfl, hs⟩, hS⟩ := hrel
      have HR := Lib.hid hS
      clear hS HS
      by_cases hlt : k < m
      · go_wp2_with fail
        refine (pick_any g (K + 3 + k) 3 _ (by omega) HR.out.2).mono ?_
        rintro e w3 ⟨r3, hr3, hR3, hg3, -, rfl⟩
        have HS3 := Lib.hid (HR.out.step hg3 hR3)
        obtain ⟨q3, rfl⟩ := Int.eq_ofNat_of_zero_le hr3.1
        have hq3 := hr3.2 (by omega)
        clear hR3 hg3 hr3 HR
        have hcv := conv_one w3 (97 + (q3 : Int))
        have hcs : (strOfNums [97 + (q3 : Int)]).size ≤ 1 := by rw [strOfNums_size]; simp
        go_wp2_with fail
        have HS4 := Lib.hid (HS3.out.alloc (.cells #[.int .u8 (97 + (q3 : Int))] 5))
        go_roundw
        case rel => exact ⟨k + 1, by omega, by go_num, ⟨_, rfl, by rw [ByteArray.size_append]; omega⟩, HS4.out⟩
        case measure => simp [intOf]; omega
      · have hkm : k = m := by omega
        subst hkm
        go_wp2_with fail
        go_ret
        exact ⟨s, by omega, HR.out.more (by omega), rfl⟩

def textSum (xs : List OpD) : Nat := (xs.map fun o => o.text.size).sum
theorem textSum_take_succ {xs : List OpD} {k : Nat} (hk : k < xs.length) : textSum (xs.take (k + 1)) = textSum (xs.take k) + xs[k].text.size := by
  unfold textSum
  rw [List.take_succ_eq_append_getElem hk, List.map_append, List.sum_append]; simp
theorem textSum_le {xs : List OpD} (h : ∀ o ∈ xs, o.text.size ≤ 1000) : textSum xs ≤ 1000 * xs.length := by
  unfold textSum
  induction xs with
  | nil => simp
  | cons x xs ih =>
    have h1 := h x (List.mem_cons_self ..)
    have h2 := ih fun o ho => h o (List.mem_cons_of_mem _ ho)
    simp only [List.map_cons, List.sum_cons, List.length_cons]; omega

theorem fl_drop {α : Type} {f : α → List Value} {m : Nat} (hf : ∀ x, (f x).length = m) (hm : 0 < m) {w : World} {lo hi : Nat} {A : Option Addr} {n k : Nat} {xs : List α} (h : Fl f w lo hi A n xs) (_ : k ≤ n) : Fl f w lo hi (A.map (·.add (k * m))) (n - k) (xs.drop k) := by
  refine ⟨by rw [List.length_drop, h.1], fun hne => ?_⟩
  have hkn : k < n := by
    rcases Nat.lt_or_ge k n with hlt | hge
    · exact hlt
    · rw [List.drop_eq_nil_of_le (by rw [h.1]; exact hge)] at hne; exact absurd rfl hne
  obtain ⟨b, o, hl, rfl, g1, g2, _⟩ := h.at_ hf hm hkn
  refine ⟨b, o + k * m, ?_, g1, g2, fun j u hu => ?_⟩
  · simp only [Option.map_some, Addr.add]
    by_cases h0 : k * m = 0
    · rw [if_pos h0, h0]; rfl
    · rw [if_neg h0]
  · have hjm : j < ((xs.drop k).flatMap f).length := (List.getElem?_eq_some_iff.1 hu).1
    rw [flat_len f m hf, List.length_drop] at hjm
    have hd : j / m < (xs.drop k).length := by rw [List.length_drop]; exact Nat.div_lt_of_lt_mul (by rw [Nat.mul_comm]; exact hjm)
    have e : j = j / m * m + j % m := by rw [Nat.mul_comm]; exact (Nat.div_add_mod j m).symm
    rw [e, flat_get f m hf _ (j / m) hd (j % m) (Nat.mod_lt _ hm)] at hu
    rw [List.length_drop] at hd
    obtain ⟨b', o', hl', hA, _, _, hc⟩ := h.at_ hf hm (k := k + j / m) (by rw [← h.1]; omega)
    simp only [Option.some.injEq, Addr.mk.injEq, and_true] at hA
    obtain ⟨rfl, rfl⟩ := hA
    rw [List.getElem_drop] at hu
    have := hc (j % m) u hu
    rw [show b = b from rfl]
    have e3 : o + k * m + j = o + (k + j / m) * m + j % m := by rw [Nat.add_mul]; omega
    rw [e3]; exact this

theorem fl_drop0 {α : Type} {f : α → List Value} {w : World} {lo hi : Nat} {A A' : Option Addr} {n k : Nat} {xs : List α} (h : Fl f w lo hi A n xs) (hk : n ≤ k) : Fl f w lo hi A' (n - k) (xs.drop k) := by
  rw [List.drop_eq_nil_of_le (by rw [h.1]; exact hk), show n - k = 0 from by omega]; exact Fl.nil _ _ _ _ _

/-- what is left behind the draw of a base and operations -/
def DrawnD (w w' : World) (e : Ending) : Prop :=
  ∃ (s : ByteArray) (A : Option Addr) (n c : Nat) (xs : List OpD), e = .returned (.tuple #[.string s, .slice A n c]) ∧ s.size ≤ 9 ∧ n ≤ 3 ∧ n ≤ c ∧ c ≤ maxLen ∧ Fl co w' w.heap.size w'.heap.size A n xs ∧ (∀ o ∈ xs, o.text.size ≤ 9) ∧ Below w.heap.size w w'

end Go.Proofs.Ytnaeglfochnikaa
