/-
  The walks of szOpS, toOpS, eqOpS and of what they call, and how an argument of type []laws.Op is opened. Condition: lengths fit an int64.
-/
import Derived.Test.YtohlmfhfcgfedaaOpenS
import Derived.Test.YtohlmfhfcgfedaaFill
import Derived.Test.YtohlmfhfcgfedaaDeltaX
import Derived.StillTailTactics
namespace Go.Proofs.Ytohlmfhfcgfedaa
open Go.ChangeShapes Go.WideShapes Go.Deep Go.RowKit

/-- a slice of operations that came in -/
def OpsIn (w : World) (A : Option Addr) (n c : Nat) (xs : List OpD) : Prop := Fl co w 0 w.heap.size A n xs ∧ n ≤ c ∧ c ≤ maxLen ∧ ∀ o ∈ xs, o.text.size ≤ 9223372036854775807

theorem open_ops {H : Type} {enc : TypeId × Value → H} {w : World} {v : Value} {d : DataW H} {pl : List MemPlace} (hv : Value.okWide Try.prog w .any 0 37 v)
    (h : DataW.Trod enc Try.prog w 0 (fun _ => true) true 37 v d pl) : ∃ A n c xs, v = .slice A n c ∧ OpsIn w A n c xs := by
  obtain ⟨A, n, c, rfl⟩ := okWide_slice Try.underlying37 hv
  obtain ⟨fuel, hf⟩ := h
  rcases open_slice_fields Try.underlying37 Try.underlying58 (by kernel_rfl) (by kernel_rfl) hf with ⟨hcs, _⟩ | ⟨a, l, c', m, D, Pl, hcs, _, hl, hm, hmm, _, hi⟩
  · simp [Value.cells] at hcs
    obtain ⟨rfl, rfl, rfl⟩ := hcs
    exact ⟨_, _, _, [], rfl, Fl.nil _ _ _ _ _, Nat.le_refl _, Nat.zero_le _, by simp⟩
  · simp [Value.cells] at hcs
    obtain ⟨rfl, rfl, rfl⟩ := hcs
    have key : ∀ i, i < n → ∃ o : OpD, o.text.size ≤ 9223372036854775807 ∧ ∀ j u, (co o)[j]? = some u → w.cell? (a.add (i * 3 + j)) = some u := by
      intro i hin
      obtain ⟨ys, q, _, _, _, hfl⟩ := hi i (by rw [hmm]; split <;> omega)
      obtain ⟨v0, y0, hc0, _, ht0⟩ := hfl 0 _ rfl
      obtain ⟨v1, y1, hc1, _, ht1⟩ := hfl 1 _ rfl
      obtain ⟨v2, y2, hc2, _, ht2⟩ := hfl 2 _ rfl
      obtain ⟨x0, e0, _, _⟩ := DataW.trod_int Try.underlying3 ht0
      obtain ⟨x1, e1, _, _⟩ := DataW.trod_int Try.underlying3 ht1
      obtain ⟨x2, e2, _, hx2⟩ := DataW.trod_string Try.underlying9 ht2
      simp at e0 e1 e2
      subst e0 e1 e2
      refine ⟨⟨x0, x1, x2⟩, ?_, ?_⟩
      · unfold maxLen at hx2; exact hx2
      · intro j u hu
        match j with
        | 0 => simp [co] at hu; subst hu; exact hc0
        | 1 => simp [co] at hu; subst hu; exact hc1
        | 2 => simp [co] at hu; subst hu; exact hc2
        | j + 3 => simp [co] at hu
    obtain ⟨xs, hxl, hx⟩ := list_of n key
    refine ⟨_, _, _, xs, rfl, ?_, hl, hm, fun o ho => ?_⟩
    · rw [← hxl]
      exact fl_of_cells co_len (by omega) fun i hi j u hu => (hx i hi).2 j u hu
    · obtain ⟨i, hi, rfl⟩ := List.getElem_of_mem ho
      exact (hx i hi).1

set_option maxHeartbeats 400000 in
theorem szOp_any (o : OpD) (left : Int) (w : World) (h0 : 0 ≤ left) (h1 : left ≤ 1048576) (ht : o.text.size ≤ 9223372036854775807) :
    Calls Try.prog 47 #[.agg #[.int .i64 o.at_, .int .i64 o.size, .string o.text], .int .i64 left] w fun e w' => ∃ r, -1 ≤ r ∧ r ≤ left ∧ Below w.heap.size w w' ∧ e = .returned (.int .i64 r) := by
  obtain ⟨at_, size, text⟩ := o
  have hbl : Below w.heap.size w (w.alloc (.cells #[.int .i64 at_, .int .i64 size, .string text] 58)) := (Below.refl _ _).alloc (Nat.le_refl _) _
  have HB := Lib.hid hbl
  clear hbl
  have hts : text.size ≤ 9223372036854775807 := ht
  clear ht
  go_enter Try.func47, Try.ntmps47
  go_wp2
  · go_ret
    exact ⟨_, by omega, by omega, HB.out, rfl⟩
  · go_ret
    exact ⟨_, by omega, by omega, HB.out, rfl⟩

set_option maxHeartbeats 400000 in
theorem szOpS_any (A : Option Addr) (n c : Nat) (xs : List OpD) (left : Int) (w : World) (hw : OpsIn w A n c xs) (h0 : 0 ≤ left) (h1 : left ≤ 1048576) :
    Calls Try.prog 24 #[.slice A n c, .int .i64 left] w fun e w' => ∃ r, -1 ≤ r ∧ r ≤ left ∧ (0 ≤ r → (n : Int) ≤ left) ∧ Below w.heap.size w w' ∧ e = .returned (.int .i64 r) := by
  obtain ⟨hfl, hnc, hcm, htx⟩ := hw
  have HI := Lib.hid hfl
  have HT := Lib.hid htx
  have hc63 : c ≤ 9223372036854775807 := by unfold maxLen at hcm; exact hcm
  clear hfl htx hcm
  by_cases hbig : left < n
  · go_enter Try.func24, Try.ntmps24
    go_wp2
    go_ret
    exact ⟨_, by omega, by omega, by omega, Below.refl _ _, rfl⟩
  · have hnl : (n : Int) ≤ left := by omega
    clear hbig
    go_enter Try.func24, Try.ntmps24
    go_wp2
    go_loopw [1, 5] (fun l i wr => ∃ (k : Nat) (q : Int), k ≤ n ∧ i = .int .i64 k ∧ l = .int .i64 q ∧ 0 ≤ q ∧ q ≤ left ∧ Below w.heap.size w wr) (fun _ i _ => n - (intOf i).toNat)
    case atStart => exact ⟨0, _, Nat.zero_le _, rfl, rfl, by omega, by omega, Below.refl _ _⟩
    case round =>
      obtain ⟨k, q, hk, rfl, rfl, hq0, hq1, hbw⟩ := hrel
      have HB := Lib.hid hbw
      have hwsz := hbw.size
      clear hbw
      by_cases hlt : k < n
      · obtain ⟨b, o, hl, rfl, _, hbh, hc1, hc2, hc3⟩ := fl_op (HI.out.below HB.out (Nat.le_refl _)) hlt
        have htx := HT.out xs[k] (List.getElem_mem hl)
        go_wp2_with fail
        refine (szOp_any xs[k] q _ hq0 (by omega) htx).mono ?_
        rintro e w2 ⟨r, hr1, hr2, hb2, rfl⟩
        have HB2 : Hid (Below w.heap.size w w2) := HB.out.trans (hb2.mono hwsz)
        clear hb2
        by_cases hr0 : r < 0
        · go_wp2_with fail
          go_ret
          exact ⟨_, by omega, by omega, by omega, HB2.out, rfl⟩
        · have hr3 : 0 ≤ r := by omega
          clear hr0
          go_wp2_with fail
          exact ⟨⟨k + 1, r, by omega, by go_num, rfl, hr3, by omega, HB2.out⟩, by simp [intOf]; omega⟩
      · have hkn : k = n := by omega
        subst hkn
        go_wp2_with fail
        go_ret
        exact ⟨_, by omega, by omega, fun _ => hnl, HB.out, rfl⟩

set_option maxHeartbeats 400000 in
theorem toOp_any (o : OpD) (w : World) :
    Calls Try.prog 48 #[.agg #[.int .i64 o.at_, .int .i64 o.size, .string o.text]] w fun e w' => Below w.heap.size w w' ∧ e = .returned (.agg #[.int .i64 o.at_, .int .i64 o.size, .string o.text]) := by
  obtain ⟨at_, size, text⟩ := o
  go_enter Try.func48, Try.ntmps48
  go_wp2
  exact bodyPost_ret (v := .agg #[.int .i64 at_, .int .i64 size, .string text]) (by simp [results, Try.results48, go_sem]) rfl
    ⟨(((Below.refl _ _).alloc (Nat.le_refl _) _).alloc (by simp) _).alloc (by simp; omega) _, rfl⟩

theorem Try.infoOp : (Try.prog.info? 34).map (fun i => (i.zero, i.size, i.bytes)) = some (some (.agg #[.int .i64 0, .int .i64 0, .string ⟨#[]⟩]), 3, 32) := by kernel_rfl
/-- an operation's zero cells -/
def zo : List Value := [.int .i64 0, .int .i64 0, .string ⟨#[]⟩]

/-- the cells of one element of a row of the call's own -/
theorem own_cells {w : World} {base size n g k : Nat} {e : TypeId} {cs : List Value} {cap : Nat} (h : w.ownsRow base e size (.slice (some ⟨g, 0, none⟩) n cap) n cs) (hk : k < n) (j : Nat) (hj : j < size) :
    ∃ u, w.cell? ⟨g, k * size + j, none⟩ = some u ∧ w.frozen? ⟨g, k * size + j, none⟩ = false := by
  have hlt : k * size + j < n * size := by
    have : (k + 1) * size ≤ n * size := Nat.mul_le_mul_right _ hk
    rw [Nat.add_mul] at this; omega
  refine ⟨cs[k * size + j]'(by rw [h.1]; exact hlt), ?_, h.frozenAt _⟩
  rw [h.cellAt _ hlt, List.getElem?_eq_getElem]

set_option maxHeartbeats 800000 in
theorem toOpS_any (A : Option Addr) (n c : Nat) (xs : List OpD) (w : World) (hn : n * 32 ≤ 140737488351232) (h : Fl co w 0 w.heap.size A n xs) :
    Calls Try.prog 25 #[.slice A n c] w fun e w' => ∃ v, e = .returned v ∧ w'.ownsRow w.heap.size 34 3 v n (xs.flatMap co) ∧ Below w.heap.size w w' := by
  have HI := Lib.hid h
  clear h
  obtain ⟨i0, hi0, hz0, hz1, hz2⟩ := info_parts Try.infoOp
  have hmk := run_make_rowN (P := Try.prog) 28 34 i0 _ Try.underlying28 hi0 hz0 n (by rw [hz2]; omega) (by unfold maxLen; omega)
  rw [hz1] at hmk
  have hml := made_cells zo (by simp [zo]) n
  have hown : ∀ W : World, (W.alloc (.cells (madeCells #[.int .i64 0, .int .i64 0, .string ⟨#[]⟩] (n * 3)) 34)).ownsRow W.heap.size 34 3 (.slice (some ⟨W.heap.size, 0, none⟩) n n) n (fillC co zo xs n 0) := fun W => by
    have := World.ownsRow_lit (e := 34) (size := 3) W (madeCells #[.int .i64 0, .int .i64 0, .string ⟨#[]⟩] (n * 3)) n (Nat.le_refl W.heap.size) (by unfold maxLen; omega) (by simp [madeCells])
    rw [show (madeCells #[.int .i64 0, .int .i64 0, .string ⟨#[]⟩] (n * 3)).toList = (List.replicate n zo).flatten from hml] at this
    simpa [fillC] using this
  have HO := Lib.hid hown
  clear hown hml hi0 hz0 hz1 hz2
  go_enter Try.func25, Try.ntmps25
  go_wp2
  go_loopw [4] (fun i wr => ∃ k : Nat, k ≤ n ∧ i = .int .i64 k ∧ wr.ownsRow w.heap.size 34 3 (.slice (some ⟨w.heap.size, 0, none⟩) n n) n (fillC co zo xs n k) ∧ Below w.heap.size w wr ∧ w.heap.size < wr.heap.size) (fun i _ => n - (intOf i).toNat)
  case atStart => exact ⟨0, Nat.zero_le _, rfl, HO.out w, (Below.refl _ _).alloc (Nat.le_refl _) _, by simp⟩
  case round =>
    obtain ⟨k, hk, rfl, hown, hb, hsz⟩ := hrel
    have HOW := Lib.hid hown
    have HB := Lib.hid hb
    have hwsz := hb.size
    clear hown hb
    by_cases hlt : k < n
    · obtain ⟨b, o, hl, rfl, _, hbh, hc1, hc2, hc3⟩ := fl_op (HI.out.below HB.out (Nat.le_refl _)) hlt
      go_wp2_with fail
      refine (toOp_any xs[k] _).mono ?_
      rintro e w2 ⟨hb2, rfl⟩
      have hown2 := own_below HOW.out hb2
      obtain ⟨u0, hg0, hf0⟩ := own_cells hown2 hlt 0 (by omega)
      obtain ⟨u1, hg1, hf1⟩ := own_cells hown2 hlt 1 (by omega)
      obtain ⟨u2, hg2, hf2⟩ := own_cells hown2 hlt 2 (by omega)
      rw [Nat.add_zero] at hg0 hf0
      have hst := stored3 hown2 (k * 3) (.int .i64 xs[k].at_) (.int .i64 xs[k].size) (.string xs[k].text)
      rw [show [Value.int .i64 xs[k].at_, .int .i64 xs[k].size, .string xs[k].text] = co xs[k] from rfl, fillC_step co zo 3 co_len rfl xs n k HI.out.1 hlt hl] at hst
      have HST := Lib.hid hst
      have HB2 : Hid (Below w.heap.size w w2) := HB.out.trans (hb2.mono hwsz)
      have hsz2 : w.heap.size < w2.heap.size := Nat.lt_of_lt_of_le hsz hb2.size
      clear hst hown2 hb2
      go_wp2_with fail
      go_roundw
      case rel => exact ⟨k + 1, by omega, by go_num, HST.out, ((HB2.out.setCell (Nat.le_refl _) _).setCell (Nat.le_refl _) _).setCell (Nat.le_refl _) _, by simpa using hsz2⟩
      case measure => simp [intOf]; omega
    · have hkn : k = n := by omega
      subst hkn
      go_wp2_with fail
      go_ret
      exact ⟨_, rfl, by rw [← fillC_all co zo xs k HI.out.1]; exact HOW.out, HB.out⟩

set_option maxHeartbeats 400000 in
theorem eqOp_any (o : OpD) (w : World) :
    Calls Try.prog 49 #[.agg #[.int .i64 o.at_, .int .i64 o.size, .string o.text], .agg #[.int .i64 o.at_, .int .i64 o.size, .string o.text]] w fun e w' => Below w.heap.size w w' ∧ e = .returned (.bool true) := by
  obtain ⟨at_, size, text⟩ := o
  have h1 : (!(at_ == at_)) = false := by simp
  have h2 : (!(size == size)) = false := by simp
  have h3 : (!(text.toList == text.toList)) = false := by simp
  go_enter Try.func49, Try.ntmps49
  go_wp2
  go_ret
  exact ⟨((Below.refl _ _).alloc (Nat.le_refl _) _).alloc (by simp) _, rfl⟩

set_option maxHeartbeats 800000 in
theorem eqOpS_any (A A' : Option Addr) (n c c' : Nat) (xs : List OpD) (w : World) (lo hi lo' hi' : Nat) (hn : n ≤ 9223372036854775807) (hh : hi ≤ w.heap.size) (hh' : hi' ≤ w.heap.size) (h : Fl co w lo hi A n xs) (h' : Fl co w lo' hi' A' n xs) :
    Calls Try.prog 26 #[.slice A n c, .slice A' n c'] w fun e w' => e = .returned (.bool true) ∧ Below w.heap.size w w' := by
  have HI := Lib.hid h
  have HJ := Lib.hid h'
  clear h h'
  go_enter Try.func26, Try.ntmps26
  go_wp2
  go_loopw [5] (fun i wr => ∃ k : Nat, k ≤ n ∧ i = .int .i64 k ∧ Below w.heap.size w wr) (fun i _ => n - (intOf i).toNat)
  case atStart => exact ⟨0, Nat.zero_le _, rfl, Below.refl _ _⟩
  case round =>
    obtain ⟨k, hk, rfl, hb⟩ := hrel
    have HB := Lib.hid hb
    have hwsz := hb.size
    clear hb
    by_cases hlt : k < n
    · obtain ⟨b, o, hl, rfl, _, hbh, hc1, hc2, hc3⟩ := fl_op (HI.out.below HB.out hh) hlt
      obtain ⟨b', o', hl', rfl, _, hbh', hc1', hc2', hc3'⟩ := fl_op (HJ.out.below HB.out hh') hlt
      go_wp2_with fail
      go_still_tail 8, (by kernel_rfl)
      change wpList _ _ _ _ _ wr.drew
      go_wp2_with fail
      refine (eqOp_any xs[k] _).mono ?_
      rintro e w2 ⟨hb2, rfl⟩
      have HB2 : Hid (Below w.heap.size w w2) := HB.out.drew.trans (hb2.mono hwsz)
      clear hb2
      go_wp2_with fail
      go_roundw
      case rel => exact ⟨k + 1, by omega, by go_num, HB2.out⟩
      case measure => simp [intOf]; omega
    · have hkn : k = n := by omega
      subst hkn
      go_wp2_with fail
      go_ret
      exact ⟨rfl, HB.out⟩

end Go.Proofs.Ytohlmfhfcgfedaa
