/-
  The walks of szUpdateS, toUpdateS, eqUpdateS, markUpdateS, heldUpdateS and of what they call, and how an argument of type []laws.Update is opened. Condition: lengths fit an int64.
-/
import Derived.Test.YtgbkjfhmbchiiaaOpenS
import Derived.Test.YtgbkjfhmbchiiaaFill
import Derived.Test.YtgbkjfhmbchiiaaRefsP
import Derived.StillTailTactics
namespace Go.Proofs.Ytgbkjfhmbchiiaa
set_option linter.unusedVariables false
set_option linter.unusedSimpArgs false
open Go.ChangeShapes Go.WideShapes Go.Deep Go.RowKit

theorem fl_upd {w : World} {lo hi n k : Nat} {A : Option Addr} {xs : List Upd} (h : Fl cu w lo hi A n xs) (hk : k < n) :
    ∃ (b o : Nat) (hl : k < xs.length), A = some ⟨b, o, none⟩ ∧ lo ≤ b ∧ b < hi ∧ w.cell? ⟨b, o + k * 3, none⟩ = some (.int .i64 xs[k].ref) ∧ w.cell? ⟨b, o + k * 3 + 1, none⟩ = some (.int .i64 xs[k].old) ∧ w.cell? ⟨b, o + k * 3 + 2, none⟩ = some (.int .i64 xs[k].new_) := by
  obtain ⟨b, o, hl, rfl, g1, g2, hc⟩ := h.at_ cu_len (by omega) hk
  exact ⟨b, o, hl, rfl, g1, g2, hc 0 _ rfl, hc 1 _ rfl, hc 2 _ rfl⟩

/-- a slice of type []laws.Update that came in -/
def UpdIn (w : World) (A : Option Addr) (n c : Nat) (xs : List Upd) : Prop := Fl cu w 0 w.heap.size A n xs ∧ n ≤ c ∧ c ≤ maxLen ∧ ∀ o ∈ xs, o = o

set_option maxRecDepth 100000 in
theorem open_Upd {H : Type} {enc : TypeId × Value → H} {w : World} {v : Value} {d : DataW H} {pl : List MemPlace} (hv : Value.okWide Try.prog w .any 0 126 v)
    (h : DataW.Trod enc Try.prog w 0 (fun _ => true) true 126 v d pl) : ∃ A n c xs, v = .slice A n c ∧ UpdIn w A n c xs := by
  obtain ⟨A, n, c, rfl⟩ := okWide_slice Try.underlying126 hv
  obtain ⟨fuel, hf⟩ := h
  rcases open_slice_fields Try.underlying126 Try.underlying145 (by kernel_rfl) (by kernel_rfl) hf with ⟨hcs, _⟩ | ⟨a, l, c', m, D, Pl, hcs, _, hl, hm, hmm, _, hi⟩
  · simp [Value.cells] at hcs
    obtain ⟨rfl, rfl, rfl⟩ := hcs
    exact ⟨_, _, _, [], rfl, Fl.nil _ _ _ _ _, Nat.le_refl _, Nat.zero_le _, by simp⟩
  · simp [Value.cells] at hcs
    obtain ⟨rfl, rfl, rfl⟩ := hcs
    have key : ∀ i, i < n → ∃ o : Upd, (o = o) ∧ ∀ j u, (cu o)[j]? = some u → w.cell? (a.add (i * 3 + j)) = some u := by
      intro i hin
      obtain ⟨ys, q, _, _, _, hfl⟩ := hi i (by rw [hmm]; split <;> omega)
      obtain ⟨v0, y0, hc0, _, ht0⟩ := hfl 0 _ rfl
      obtain ⟨v1, y1, hc1, _, ht1⟩ := hfl 1 _ rfl
      obtain ⟨v2, y2, hc2, _, ht2⟩ := hfl 2 _ rfl
      obtain ⟨x0, e0, _, hx0⟩ := DataW.trod_int Try.underlying3 ht0
      obtain ⟨x1, e1, _, hx1⟩ := DataW.trod_int Try.underlying3 ht1
      obtain ⟨x2, e2, _, hx2⟩ := DataW.trod_int Try.underlying3 ht2
      simp at e0 e1 e2
      subst e0 e1 e2
      refine ⟨⟨x0, x1, x2⟩, ?_, ?_⟩
      · rfl
      · intro j u hu
        match j with
        | 0 => simp [cu] at hu; subst hu; exact hc0
        | 1 => simp [cu] at hu; subst hu; exact hc1
        | 2 => simp [cu] at hu; subst hu; exact hc2
        | j + 3 => simp [cu] at hu
    obtain ⟨xs, hxl, hx⟩ := list_of n key
    refine ⟨_, _, _, xs, rfl, ?_, hl, hm, fun o ho => ?_⟩
    · rw [← hxl]
      exact fl_of_cells cu_len (by omega) fun i hi j u hu => (hx i hi).2 j u hu
    · obtain ⟨i, hi, rfl⟩ := List.getElem_of_mem ho
      exact (hx i hi).1

set_option maxHeartbeats 400000 in
theorem szUpdateS_any (A : Option Addr) (n c : Nat) (xs : List Upd) (left : Int) (w : World) (hw : UpdIn w A n c xs) (h0 : 0 ≤ left) (h1 : left ≤ 1048576) :
    Calls Try.prog 104 #[.slice A n c, .int .i64 left] w fun e w' => ∃ r, -1 ≤ r ∧ r ≤ left ∧ (0 ≤ r → (n : Int) ≤ left) ∧ Below w.heap.size w w' ∧ e = .returned (.int .i64 r) := by
  obtain ⟨hfl, hnc, hcm, _⟩ := hw
  have hc63 : c ≤ 9223372036854775807 := by unfold maxLen at hcm; exact hcm
  clear hfl hcm
  go_enter Try.func104, Try.ntmps104
  go_wp2
  · go_ret
    exact ⟨_, by omega, by omega, by omega, Below.refl _ _, rfl⟩
  · go_ret
    exact ⟨_, by omega, by omega, by omega, Below.refl _ _, rfl⟩

set_option maxHeartbeats 400000 in
theorem toUpdate_any (o : Upd) (w : World) :
    Calls Try.prog 108 #[.agg #[.int .i64 o.ref, .int .i64 o.old, .int .i64 o.new_]] w fun e w' => Below w.heap.size w w' ∧ e = .returned (.agg #[.int .i64 o.ref, .int .i64 o.old, .int .i64 o.new_]) := by
  obtain ⟨ref, old, new_⟩ := o
  go_enter Try.func108, Try.ntmps108
  go_wp2
  exact bodyPost_ret (v := .agg #[.int .i64 ref, .int .i64 old, .int .i64 new_]) (by simp [results, Try.results108, go_sem]) rfl
    ⟨(((Below.refl _ _).alloc (Nat.le_refl _) _).alloc (by simp) _).alloc (by simp; omega) _, rfl⟩

theorem Try.infoUpdate : (Try.prog.info? 88).map (fun i => (i.zero, i.size, i.bytes)) = some (some (.agg #[.int .i64 0, .int .i64 0, .int .i64 0]), 3, 24) := by kernel_rfl
/-- the zero cells of an element -/
def zcu : List Value := [.int .i64 0, .int .i64 0, .int .i64 0]

set_option maxHeartbeats 800000 in
theorem toUpdateS_any (A : Option Addr) (n c : Nat) (xs : List Upd) (w : World) (hn : n * 24 ≤ 140737488351232) (h : Fl cu w 0 w.heap.size A n xs) :
    Calls Try.prog 105 #[.slice A n c] w fun e w' => ∃ v, e = .returned v ∧ w'.ownsRow w.heap.size 88 3 v n (xs.flatMap cu) ∧ Below w.heap.size w w' := by
  have HI := Lib.hid h
  clear h
  obtain ⟨i0, hi0, hz0, hz1, hz2⟩ := info_parts Try.infoUpdate
  have hmk := run_make_rowN (P := Try.prog) 47 88 i0 _ Try.underlying47 hi0 hz0 n (by rw [hz2]; omega) (by unfold maxLen; omega)
  rw [hz1] at hmk
  have hml := made_cells zcu (by simp [zcu]) n
  have hown : ∀ W : World, (W.alloc (.cells (madeCells #[.int .i64 0, .int .i64 0, .int .i64 0] (n * 3)) 88)).ownsRow W.heap.size 88 3 (.slice (some ⟨W.heap.size, 0, none⟩) n n) n (fillC cu zcu xs n 0) := fun W => by
    have := World.ownsRow_lit (e := 88) (size := 3) W (madeCells #[.int .i64 0, .int .i64 0, .int .i64 0] (n * 3)) n (Nat.le_refl W.heap.size) (by unfold maxLen; omega) (by simp [madeCells])
    rw [show (madeCells #[.int .i64 0, .int .i64 0, .int .i64 0] (n * 3)).toList = (List.replicate n zcu).flatten from hml] at this
    simpa [fillC] using this
  have HO := Lib.hid hown
  clear hown hml hi0 hz0 hz1 hz2
  go_enter Try.func105, Try.ntmps105
  go_wp2
  go_loopw [4] (fun i wr => ∃ k : Nat, k ≤ n ∧ i = .int .i64 k ∧ wr.ownsRow w.heap.size 88 3 (.slice (some ⟨w.heap.size, 0, none⟩) n n) n (fillC cu zcu xs n k) ∧ Below w.heap.size w wr ∧ w.heap.size < wr.heap.size) (fun i _ => n - (intOf i).toNat)
  case atStart => exact ⟨0, Nat.zero_le _, rfl, HO.out w, (Below.refl _ _).alloc (Nat.le_refl _) _, by simp⟩
  case round =>
    obtain ⟨k, hk, rfl, hown, hb, hsz⟩ := hrel
    have HOW := Lib.hid hown
    have HB := Lib.hid hb
    have hwsz := hb.size
    clear hown hb
    by_cases hlt : k < n
    · obtain ⟨b, o, hl, rfl, _, hbh, hc0, hc1, hc2⟩ := fl_upd (HI.out.below HB.out (Nat.le_refl _)) hlt
      go_wp2_with fail
      refine (toUpdate_any xs[k] _).mono ?_
      rintro e w2 ⟨hb2, rfl⟩
      have hown2 := own_below HOW.out hb2
      obtain ⟨u0, hg0, hf0⟩ := own_cells hown2 hlt 0 (by omega)
      obtain ⟨u1, hg1, hf1⟩ := own_cells hown2 hlt 1 (by omega)
      obtain ⟨u2, hg2, hf2⟩ := own_cells hown2 hlt 2 (by omega)
      rw [Nat.add_zero] at hg0 hf0
      have hst := stored3 hown2 (k * 3) (.int .i64 xs[k].ref) (.int .i64 xs[k].old) (.int .i64 xs[k].new_)
      rw [show [.int .i64 xs[k].ref, .int .i64 xs[k].old, .int .i64 xs[k].new_] = cu xs[k] from rfl, fillC_step cu zcu 3 cu_len rfl xs n k HI.out.1 hlt hl] at hst
      have HST := Lib.hid hst
      have HB2 : Hid (Below w.heap.size w w2) := HB.out.trans (hb2.mono hwsz)
      have hsz2 : w.heap.size < w2.heap.size := Nat.lt_of_lt_of_le hsz hb2.size
      clear hst hown2 hb2
      go_wp2_with fail
      go_roundw
      case rel => exact ⟨k + 1, by omega, by go_num, HST.out, ((HB2.out.setCell (Nat.le_refl _) _).setCell (Nat.le_refl _) _).setCell (Nat.le_refl _) _, by simpa using hsz2⟩
      case measure => simp [intOf]; omega
    · have hkn : k = n := by omega
      subst hkn
      go_wp2_with fail
      go_ret
      exact ⟨_, rfl, by rw [← fillC_all cu zcu xs k HI.out.1]; exact HOW.out, HB.out⟩

set_option maxHeartbeats 400000 in
theorem eqUpdate_any (o : Upd) (w : World) :
    Calls Try.prog 109 #[.agg #[.int .i64 o.ref, .int .i64 o.old, .int .i64 o.new_], .agg #[.int .i64 o.ref, .int .i64 o.old, .int .i64 o.new_]] w fun e w' => Below w.heap.size w w' ∧ e = .returned (.bool true) := by
  obtain ⟨ref, old, new_⟩ := o
  have h0 : (!(ref == ref)) = false := by simp
  have h1 : (!(old == old)) = false := by simp
  have h2 : (!(new_ == new_)) = false := by simp
  go_enter Try.func109, Try.ntmps109
  go_wp2
  go_ret
  exact ⟨((Below.refl _ _).alloc (Nat.le_refl _) _).alloc (by simp) _, rfl⟩

set_option maxRecDepth 100000 in
set_option maxHeartbeats 800000 in
theorem eqUpdateS_any (A A' : Option Addr) (n c c' : Nat) (xs : List Upd) (w : World) (lo hi lo' hi' : Nat) (hn : n ≤ 9223372036854775807) (hh : hi ≤ w.heap.size) (hh' : hi' ≤ w.heap.size) (h : Fl cu w lo hi A n xs) (h' : Fl cu w lo' hi' A' n xs) :
    Calls Try.prog 106 #[.slice A n c, .slice A' n c'] w fun e w' => e = .returned (.bool true) ∧ Below w.heap.size w w' := by
  have HI := Lib.hid h
  have HJ := Lib.hid h'
  clear h h'
  go_enter Try.func106, Try.ntmps106
  go_wp2
  go_loopw [5] (fun i wr => ∃ k : Nat, k ≤ n ∧ i = .int .i64 k ∧ Below w.heap.size w wr) (fun i _ => n - (intOf i).toNat)
  case atStart => exact ⟨0, Nat.zero_le _, rfl, Below.refl _ _⟩
  case round =>
    obtain ⟨k, hk, rfl, hb⟩ := hrel
    have HB := Lib.hid hb
    have hwsz := hb.size
    clear hb
    by_cases hlt : k < n
    · obtain ⟨b, o, hl, rfl, _, hbh, hc0, hc1, hc2⟩ := fl_upd (HI.out.below HB.out hh) hlt
      obtain ⟨b', o', hl', rfl, _, hbh', hc0', hc1', hc2'⟩ := fl_upd (HJ.out.below HB.out hh') hlt
      go_wp2_with fail
      go_still_tail 8, (by kernel_rfl)
      change wpList _ _ _ _ _ wr.drew
      go_wp2_with fail
      refine (eqUpdate_any xs[k] _).mono ?_
      rintro e w2 ⟨hb2, rfl⟩
      have HB2 : Hid (Below w.heap.size w w2) := HB.out.drew.trans (hb2.mono hwsz)
      clear hb2
      go_wp2_with fail
      go_roundw
      case rel => exact ⟨k + 1, by omega, by go_num, HB2.out⟩
      case measure => simp [intOf]; omega
    · have hkn : k = n := by omega
      subst hkn
      go_wp2_with fail
      go_ret
      exact ⟨rfl, HB.out⟩

end Go.Proofs.Ytgbkjfhmbchiiaa
