/-
  The walks of szUpdateS, toUpdateS, eqUpdateS, markUpdateS, heldUpdateS and of what they call, and how an argument of type []laws.Update is opened. Condition: lengths fit an int64.
  The walks of inRange, of the program, and of l6In, of the reference: each answers whether a number lies in a range. No condition.
  Plain laws on refs and updates: what a ref is behind updates, updates twice, undone, in another order, and the differences. No program in sight.
  Plain laws on the differences of refs: they lead from one to the other, and are the updates that were performed. No program in sight.
-/
import Derived.Test.YtgbkjfhmbchiiaaM5
import Derived.Test.YtgbkjfhmbchiiaaM1
import Derived.Test.YtgbkjfhmbchiiaaM2
import Derived.StillTailTactics
namespace Go.Proofs.Ytgbkjfhmbchiiaa
set_option linter.unusedVariables false
set_option linter.unusedSimpArgs false
open Go.ChangeShapes Go.WideShapes Go.Deep Go.RowKit

theorem fl_upd {w : World} {lo hi n k : Nat} {A : Option Addr} {xs : List Upd} (h : Fl cu w lo hi A n xs) (hk : k < n) :
    ∃ (b o : Nat) (hl : k < xs.length), A = some ⟨b, o, none⟩ ∧ lo ≤ b ∧ b < hi ∧ w.cell? ⟨b, o + k * 3, none⟩ = some (.int .i64 xs[k].ref) ∧ w.cell? ⟨b, o + k * 3 + 1, none⟩ = some (.int .i64 xs[k].old) ∧ w.cell? ⟨b, o + k * 3 + 2, none⟩ = some (.int .i64 xs[k].new_) := by
  obtain ⟨b, o, hl, rfl, g1, g2, hc⟩ := h.at_ cu_len (by omega) hk
  exact ⟨b, o, hl, rfl, g1, g2, hc 0 _ rfl, hc 1 _ rfl, hc 2 _ rfl⟩

/-- a slice of type []laws.Update that came in -/
def UpdIn (w : World) (A : Option Addr) (n c : Nat) (xs : List Upd) : Prop := Fl cu w 0 w.heap.size A n xs ∧ n ≤ c ∧ c ≤ maxLen ∧ ∀ o ∈ xs, o = o

set_option maxRecDepth 100000 in
theorem open_Upd {H : Type} {enc : TypeId × Value → H} {w : World} {v : Value} {d : DataW H} {pl : List MemPlace} (hv : Value.okWide Try.prog w .any 0 126 v)
    (h : DataW.Trod enc Try.prog w 0 (fun _ => true) true 126 v d pl) : ∃ A n c xs, v = .slice A n c ∧ UpdIn w A n c xs := by
  obtain ⟨A, n, c, rfl⟩ := okWide_slice Try.underlying126 hv
  obtain ⟨fuel, hf⟩ := h
  rcases open_slice_fields Try.underlying126 Try.underlying145 (by kernel_rfl) (by kernel_rfl) hf with ⟨hcs, _⟩ | ⟨a, l, c', m, D, Pl, hcs, _, hl, hm, hmm, _, hi⟩
  · simp [Value.cells] at hcs
    obtain ⟨rfl, rfl, rfl⟩ := hcs
    exact ⟨_, _, _, [], rfl, Fl.nil _ _ _ _ _, Nat.le_refl _, Nat.zero_le _, by simp⟩
  · simp [Value.cells] at hcs
    obtain ⟨rfl, rfl, rfl⟩ := hcs
    have key : ∀ i, i < n → ∃ o : Upd, (o = o) ∧ ∀ j u, (cu o)[j]? = some u → w.cell? (a.add (i * 3 + j)) = some u := by
      intro i hin
      obtain ⟨ys, q, _, _, _, hfl⟩ := hi i (by rw [hmm]; split <;> omega)
      obtain ⟨v0, y0, hc0, _, ht0⟩ := hfl 0 _ rfl
      obtain ⟨v1, y1, hc1, _, ht1⟩ := hfl 1 _ rfl
      obtain ⟨v2, y2, hc2, _, ht2⟩ := hfl 2 _ rfl
      obtain ⟨x0, e0, _, hx0⟩ := DataW.trod_int Try.underlying3 ht0
      obtain ⟨x1, e1, _, hx1⟩ := DataW.trod_int Try.underlying3 ht1
      obtain ⟨x2, e2, _, hx2⟩ := DataW.trod_int Try.underlying3 ht2
      simp at e0 e1 e2
      subst e0 e1 e2
      refine ⟨⟨x0, x1, x2⟩, ?_, ?_⟩
      · rfl
      · intro j u hu
        match j with
        | 0 => simp [cu] at hu; subst hu; exact hc0
        | 1 => simp [cu] at hu; subst hu; exact hc1
        | 2 => simp [cu] at hu; subst hu; exact hc2
        | j + 3 => simp [cu] at hu
    obtain ⟨xs, hxl, hx⟩ := list_of n key
    refine ⟨_, _, _, xs, rfl, ?_, hl, hm, fun o ho => ?_⟩
    · rw [← hxl]
      exact fl_of_cells cu_len (by omega) fun i hi j u hu => (hx i hi).2 j u hu
    · obtain ⟨i, hi, rfl⟩ := List.getElem_of_mem ho
      exact (hx i hi).1

set_option maxHeartbeats 400000 in
theorem szUpdateS_any (A : Option Addr) (n c : Nat) (xs : List Upd) (left : Int) (w : World) (hw : UpdIn w A n c xs) (h0 : 0 ≤ left) (h1 : left ≤ 1048576) :
    Calls Try.prog 104 #[.slice A n c, .int .i64 left] w fun e w' => ∃ r, -1 ≤ r ∧ r ≤ left ∧ (0 ≤ r → (n : Int) ≤ left) ∧ Below w.heap.size w w' ∧ e = .returned (.int .i64 r) := by
  obtain ⟨hfl, hnc, hcm, _⟩ := hw
  have hc63 : c ≤ 9223372036854775807 := by unfold maxLen at hcm; exact hcm
  clear hfl hcm
  go_enter Try.func104, Try.ntmps104
  go_wp2
  · go_ret
    exact ⟨_, by omega, by omega, by omega, Below.refl _ _, rfl⟩
  · go_ret
    exact ⟨_, by omega, by omega, by omega, Below.refl _ _, rfl⟩

set_option maxHeartbeats 400000 in
theorem toUpdate_any (o : Upd) (w : World) :
    Calls Try.prog 108 #[.agg #[.int .i64 o.ref, .int .i64 o.old, .int .i64 o.new_]] w fun e w' => Below w.heap.size w w' ∧ e = .returned (.agg #[.int .i64 o.ref, .int .i64 o.old, .int .i64 o.new_]) := by
  obtain ⟨ref, old, new_⟩ := o
  go_enter Try.func108, Try.ntmps108
  go_wp2
  exact bodyPost_ret (v := .agg #[.int .i64 ref, .int .i64 old, .int .i64 new_]) (by simp [results, Try.results108, go_sem]) rfl
    ⟨(((Below.refl _ _).alloc (Nat.le_refl _) _).alloc (by simp) _).alloc (by simp; omega) _, rfl⟩

theorem Try.infoUpdateX : (Try.prog.info? 88).map (fun i => (i.zero, i.size, i.bytes)) = some (some (.agg #[.int .i64 0, .int .i64 0, .int .i64 0]), 3, 24) := by kernel_rfl
/-- the zero cells of an element -/
def zcu : List Value := [.int .i64 0, .int .i64 0, .int .i64 0]

set_option maxHeartbeats 800000 in
theorem toUpdateS_any (A : Option Addr) (n c : Nat) (xs : List Upd) (w : World) (hn : n * 24 ≤ 140737488351232) (h : Fl cu w 0 w.heap.size A n xs) :
    Calls Try.prog 105 #[.slice A n c] w fun e w' => ∃ v, e = .returned v ∧ w'.ownsRow w.heap.size 88 3 v n (xs.flatMap cu) ∧ Below w.heap.size w w' := by
  have HI := Lib.hid h
  clear h
  obtain ⟨i0, hi0, hz0, hz1, hz2⟩ := info_parts Try.infoUpdateX
  have hmk := run_make_rowN (P := Try.prog) 47 88 i0 _ Try.underlying47 hi0 hz0 n (by rw [hz2]; omega) (by unfold maxLen; omega)
  rw [hz1] at hmk
  have hml := made_cells zcu (by simp [zcu]) n
  have hown : ∀ W : World, (W.alloc (.cells (madeCells #[.int .i64 0, .int .i64 0, .int .i64 0] (n * 3)) 88)).ownsRow W.heap.size 88 3 (.slice (some ⟨W.heap.size, 0, none⟩) n n) n (fillC cu zcu xs n 0) := fun W => by
    have := World.ownsRow_lit (e := 88) (size := 3) W (madeCells #[.int .i64 0, .int .i64 0, .int .i64 0] (n * 3)) n (Nat.le_refl W.heap.size) (by unfold maxLen; omega) (by simp [madeCells])
    rw [show (madeCells #[.int .i64 0, .int .i64 0, .int .i64 0] (n * 3)).toList = (List.replicate n zcu).flatten from hml] at this
    simpa [fillC] using this
  have HO := Lib.hid hown
  clear hown hml hi0 hz0 hz1 hz2
  go_enter Try.func105, Try.ntmps105
  go_wp2
  go_loopw [4] (fun i wr => ∃ k : Nat, k ≤ n ∧ i = .int .i64 k ∧ wr.ownsRow w.heap.size 88 3 (.slice (some ⟨w.heap.size, 0, none⟩) n n) n (fillC cu zcu xs n k) ∧ Below w.heap.size w wr ∧ w.heap.size < wr.heap.size) (fun i _ => n - (intOf i).toNat)
  case atStart => exact ⟨0, Nat.zero_le _, rfl, HO.out w, (Below.refl _ _).alloc (Nat.le_refl _) _, by simp⟩
  case round =>
    obtain ⟨k, hk, rfl, hown, hb, hsz⟩ := hrel
    have HOW := Lib.hid hown
    have HB := Lib.hid hb
    have hwsz := hb.size
    clear hown hb
    by_cases hlt : k < n
    · obtain ⟨b, o, hl, rfl, _, hbh, hc0, hc1, hc2⟩ := fl_upd (HI.out.below HB.out (Nat.le_refl _)) hlt
      go_wp2_with fail
      refine (toUpdate_any xs[k] _).mono ?_
      rintro e w2 ⟨hb2, rfl⟩
      have hown2 := own_below HOW.out hb2
      obtain ⟨u0, hg0, hf0⟩ := own_cells hown2 hlt 0 (by omega)
      obtain ⟨u1, hg1, hf1⟩ := own_cells hown2 hlt 1 (by omega)
      obtain ⟨u2, hg2, hf2⟩ := own_cells hown2 hlt 2 (by omega)
      rw [Nat.add_zero] at hg0 hf0
      have hst := stored3 hown2 (k * 3) (.int .i64 xs[k].ref) (.int .i64 xs[k].old) (.int .i64 xs[k].new_)
      rw [show [.int .i64 xs[k].ref, .int .i64 xs[k].old, .int .i64 xs[k].new_] = cu xs[k] from rfl, fillC_step cu zcu 3 cu_len rfl xs n k HI.out.1 hlt hl] at hst
      have HST := Lib.hid hst
      have HB2 : Hid (Below w.heap.size w w2) := HB.out.trans (hb2.mono hwsz)
      have hsz2 : w.heap.size < w2.heap.size := Nat.lt_of_lt_of_le hsz hb2.size
      clear hst hown2 hb2
      go_wp2_with fail
      go_roundw
      case rel => exact ⟨k + 1, by omega, by go_num, HST.out, ((HB2.out.setCell (Nat.le_refl _) _).setCell (Nat.le_refl _) _).setCell (Nat.le_refl _) _, by simpa using hsz2⟩
      case measure => simp [intOf]; omega
    · have hkn : k = n := by omega
      subst hkn
      go_wp2_with fail
      go_ret
      exact ⟨_, rfl, by rw [← fillC_all cu zcu xs k HI.out.1]; exact HOW.out, HB.out⟩

set_option maxHeartbeats 400000 in
theorem eqUpdate_any (o : Upd) (w : World) :
    Calls Try.prog 109 #[.agg #[.int .i64 o.ref, .int .i64 o.old, .int .i64 o.new_], .agg #[.int .i64 o.ref, .int .i64 o.old, .int .i64 o.new_]] w fun e w' => Below w.heap.size w w' ∧ e = .returned (.bool true) := by
  obtain ⟨ref, old, new_⟩ := o
  have h0 : (!(ref == ref)) = false := by simp
  have h1 : (!(old == old)) = false := by simp
  have h2 : (!(new_ == new_)) = false := by simp
  go_enter Try.func109, Try.ntmps109
  go_wp2
  go_ret
  exact ⟨((Below.refl _ _).alloc (Nat.le_refl _) _).alloc (by simp) _, rfl⟩

set_option maxRecDepth 100000 in
set_option maxHeartbeats 800000 in
theorem eqUpdateS_any (A A' : Option Addr) (n c c' : Nat) (xs : List Upd) (w : World) (lo hi lo' hi' : Nat) (hn : n ≤ 9223372036854775807) (hh : hi ≤ w.heap.size) (hh' : hi' ≤ w.heap.size) (h : Fl cu w lo hi A n xs) (h' : Fl cu w lo' hi' A' n xs) :
    Calls Try.prog 106 #[.slice A n c, .slice A' n c'] w fun e w' => e = .returned (.bool true) ∧ Below w.heap.size w w' := by
  have HI := Lib.hid h
  have HJ := Lib.hid h'
  clear h h'
  go_enter Try.func106, Try.ntmps106
  go_wp2
  go_loopw [5] (fun i wr => ∃ k : Nat, k ≤ n ∧ i = .int .i64 k ∧ Below w.heap.size w wr) (fun i _ => n - (intOf i).toNat)
  case atStart => exact ⟨0, Nat.zero_le _, rfl, Below.refl _ _⟩
  case round =>
    obtain ⟨k, hk, rfl, hb⟩ := hrel
    have HB := Lib.hid hb
    have hwsz := hb.size
    clear hb
    by_cases hlt : k < n
    · obtain ⟨b, o, hl, rfl, _, hbh, hc0, hc1, hc2⟩ := fl_upd (HI.out.below HB.out hh) hlt
      obtain ⟨b', o', hl', rfl, _, hbh', hc0', hc1', hc2'⟩ := fl_upd (HJ.out.below HB.out hh') hlt
      go_wp2_with fail
      go_still_tail 8, (by kernel_rfl)
      change wpList _ _ _ _ _ wr.drew
      go_wp2_with fail
      refine (eqUpdate_any xs[k] _).mono ?_
      rintro e w2 ⟨hb2, rfl⟩
      have HB2 : Hid (Below w.heap.size w w2) := HB.out.drew.trans (hb2.mono hwsz)
      clear hb2
      go_wp2_with fail
      go_roundw
      case rel => exact ⟨k + 1, by omega, by go_num, HB2.out⟩
      case measure => simp [intOf]; omega
    · have hkn : k = n := by omega
      subst hkn
      go_wp2_with fail
      go_ret
      exact ⟨rfl, HB.out⟩

end Go.Proofs.Ytgbkjfhmbchiiaa

namespace Go.Proofs.Ytgbkjfhmbchiiaa
set_option linter.unusedVariables false
set_option linter.unusedSimpArgs false
open Go.RowKit

set_option maxHeartbeats 400000 in
theorem inRange_any (n a b : Int) (w : World) :
    Calls Try.prog 39 #[.int .i64 n, .int .i64 a, .int .i64 b] w fun e w' => e = .returned (.bool (inR n a b)) ∧ w = w' := by
  go_enter Try.func39, Try.ntmps39
  go_wp2
  all_goals go_ret
  · exact ⟨by simp [inR, *], rfl⟩
  · have h : ¬ a ≤ n := by omega
    exact ⟨by simp [inR, h], rfl⟩

set_option maxHeartbeats 400000 in
theorem l6In_any (n a b : Int) (w : World) :
    Calls Try.prog 41 #[.int .i64 n, .int .i64 a, .int .i64 b] w fun e w' => e = .returned (.bool (inR n a b)) ∧ w = w' := by
  go_enter Try.func41, Try.ntmps41
  go_wp2
  all_goals go_ret
  · exact ⟨by simp [inR, *], rfl⟩
  · have h : ¬ a ≤ n := by omega
    exact ⟨by simp [inR, h], rfl⟩

end Go.Proofs.Ytgbkjfhmbchiiaa

namespace Go.Proofs.Ytgbkjfhmbchiiaa
set_option linter.unusedVariables false
set_option linter.unusedSimpArgs false
open Go.RowKit

theorem rid_iff (n : Int) : rid n = true ↔ -1 ≤ n ∧ n ≤ 990 := inR_iff _ _ _
theorem uokB_iff (u : Upd) : uokB u = true ↔ (0 ≤ u.ref ∧ u.ref ≤ 3) ∧ rid u.old = true ∧ rid u.new_ = true ∧ u.old ≠ u.new_ := by
  unfold uokB
  simp only [Bool.and_eq_true, inR_iff, Bool.not_eq_true', decide_eq_false_iff_not]
  constructor
  · rintro ⟨⟨⟨h1, h2⟩, h3⟩, h4⟩; exact ⟨h1, h2, h3, h4⟩
  · rintro ⟨h1, h2, h3, h4⟩; exact ⟨⟨⟨h1, h2⟩, h3⟩, h4⟩

/-- every update fits alone, and refs ascend from lo on -/
def Asc : Int → List Upd → Prop
  | _, [] => True
  | lo, u :: us => uokB u = true ∧ lo ≤ u.ref ∧ Asc (u.ref + 1) us
theorem Asc.of_go {us : List Upd} : ∀ {p : Option Int}, updsGo p us = true → Asc (match p with | none => 0 | some q => q + 1) us := by
  induction us with
  | nil => intro p _; trivial
  | cons u us ih =>
    intro p h
    unfold updsGo at h
    simp only [Bool.and_eq_true] at h
    obtain ⟨⟨h1, h2⟩, h3⟩ := h
    refine ⟨h1, ?_, ih h3⟩
    rcases p with _ | q
    · exact ((uokB_iff u).1 h1).1.1
    · simp only [decide_eq_true_eq] at h2; show q + 1 ≤ u.ref; omega
theorem Asc.to_go {us : List Upd} : ∀ {lo : Int}, Asc lo us → ∀ p : Option Int, (∀ q, p = some q → q < lo) → updsGo p us = true := by
  induction us with
  | nil => intro _ _ p _; rfl
  | cons u us ih =>
    intro lo h p hp
    obtain ⟨h1, h2, h3⟩ := h
    unfold updsGo
    simp only [Bool.and_eq_true]
    refine ⟨⟨h1, ?_⟩, ih h3 _ fun q hq => by injection hq with hq; omega⟩
    rcases p with _ | q
    · rfl
    · have := hp q rfl; simp only [decide_eq_true_eq]; omega
theorem updsB_asc {us : List Upd} (h : updsB us = true) : Asc 0 us ∧ us ≠ [] := by
  unfold updsB at h
  simp only [Bool.and_eq_true, decide_eq_true_eq] at h
  exact ⟨Asc.of_go h.1, by intro e; rw [e] at h; simp at h⟩
theorem asc_updsB {us : List Upd} (h : Asc 0 us) (hne : us ≠ []) : updsB us = true := by
  unfold updsB
  simp only [Bool.and_eq_true, decide_eq_true_eq]
  exact ⟨h.to_go none (fun q hq => by cases hq), by rcases us with _ | _ <;> simp at hne ⊢⟩
theorem Asc.mem {us : List Upd} : ∀ {lo : Int}, Asc lo us → ∀ u ∈ us, uokB u = true ∧ lo ≤ u.ref := by
  induction us with
  | nil => intro _ _ u hu; cases hu
  | cons v us ih =>
    intro lo h u hu
    obtain ⟨h1, h2, h3⟩ := h
    rcases List.mem_cons.1 hu with rfl | hu
    · exact ⟨h1, h2⟩
    · have := ih h3 u hu; exact ⟨this.1, by omega⟩

/-- the update of a ref, if there is one -/
def look (us : List Upd) (r : Int) : Option Upd := us.find? fun u => decide (u.ref = r)
theorem look_none {us : List Upd} {lo r : Int} (h : Asc lo us) (hr : r < lo) : look us r = none := by
  unfold look
  rw [List.find?_eq_none]
  intro u hu
  have := (h.mem u hu).2
  simp only [decide_eq_true_eq]; omega
theorem look_mem {us : List Upd} {lo : Int} (h : Asc lo us) {u : Upd} (hu : u ∈ us) : look us u.ref = some u := by
  induction us generalizing lo with
  | nil => cases hu
  | cons v us ih =>
    obtain ⟨h1, h2, h3⟩ := h
    rcases List.mem_cons.1 hu with rfl | hu
    · unfold look; rw [List.find?_cons_of_pos (by simp)]
    · have := (h3.mem u hu).2
      unfold look
      rw [List.find?_cons_of_neg (by simp; omega)]
      exact ih h3 hu
theorem look_some {us : List Upd} {r : Int} {u : Upd} (h : look us r = some u) : u ∈ us ∧ u.ref = r := by
  unfold look at h
  exact ⟨List.mem_of_find?_eq_some h, by simpa using List.find?_some h⟩

theorem setR_len (us : List Upd) : ∀ xs : List Int, (setR xs us).length = xs.length := by
  unfold setR
  induction us with
  | nil => intro xs; rfl
  | cons u us ih => intro xs; rw [List.foldl_cons, ih, List.length_set]
theorem getR_set {xs : List Int} {r s : Int} (x : Int) (hr : 0 ≤ r) (hs : 0 ≤ s) (hl : s.toNat < xs.length) : getR (xs.set s.toNat x) r = if s = r then x else getR xs r := by
  unfold getR
  rw [List.getD_eq_getElem?_getD, List.getElem?_set]
  by_cases h : s = r
  · subst h; rw [if_pos rfl, if_pos hl, if_pos rfl]; rfl
  · rw [if_neg (by omega), if_neg h, List.getD_eq_getElem?_getD]
theorem getR_setR {us : List Upd} : ∀ {lo : Int} {xs : List Int} {r : Int}, Asc lo us → 0 ≤ lo → xs.length = 4 → 0 ≤ r → getR (setR xs us) r = match look us r with | some u => u.new_ | none => getR xs r := by
  induction us with
  | nil => intro lo xs r _ _ _ _; rfl
  | cons v us ih =>
    intro lo xs r h h0 hl hr
    obtain ⟨h1, h2, h3⟩ := h
    have hv := ((uokB_iff v).1 h1).1
    have e : setR xs (v :: us) = setR (xs.set v.ref.toNat v.new_) us := rfl
    rw [e, ih h3 (by omega) (by rw [List.length_set]; exact hl) hr, getR_set _ hr hv.1 (by omega)]
    by_cases hrv : v.ref = r
    · rw [look_none h3 (by omega), if_pos hrv]
      unfold look; rw [List.find?_cons_of_pos (by simp [hrv])]
    · rw [if_neg hrv]
      have : look (v :: us) r = look us r := by unfold look; rw [List.find?_cons_of_neg (by simp [hrv])]
      rw [this]
theorem list4 {xs ys : List Int} (hx : xs.length = 4) (hy : ys.length = 4) (h : ∀ r : Int, 0 ≤ r → r ≤ 3 → getR xs r = getR ys r) : xs = ys := by
  refine List.ext_getElem (by omega) fun i h1 h2 => ?_
  have := h i (by omega) (by omega)
  unfold getR at this
  rw [Int.toNat_natCast, List.getD_eq_getElem?_getD, List.getD_eq_getElem?_getD, List.getElem?_eq_getElem h1, List.getElem?_eq_getElem h2] at this
  exact this
theorem fitsR_iff (xs : List Int) (us : List Upd) : fitsR xs us = true ↔ ∀ u ∈ us, getR xs u.ref = u.old := by
  unfold fitsR; rw [List.all_eq_true]; simp only [decide_eq_true_eq]

theorem refsB_iff (xs : List Int) : refsB xs = true ↔ xs.length = 4 ∧ ∀ x ∈ xs, rid x = true := by
  unfold refsB ridsB; rw [Bool.and_eq_true, decide_eq_true_eq, List.all_eq_true]
theorem getR_mem {xs : List Int} {r : Int} (hl : xs.length = 4) (h0 : 0 ≤ r) (h3 : r ≤ 3) : getR xs r ∈ xs := by
  unfold getR
  rw [List.getD_eq_getElem?_getD, List.getElem?_eq_getElem (by omega)]
  exact List.getElem_mem _
theorem mem_getR {xs : List Int} (hl : xs.length = 4) {x : Int} (hx : x ∈ xs) : ∃ r : Int, 0 ≤ r ∧ r ≤ 3 ∧ getR xs r = x := by
  obtain ⟨i, hi, rfl⟩ := List.getElem_of_mem hx
  refine ⟨i, by omega, by omega, ?_⟩
  unfold getR
  rw [Int.toNat_natCast, List.getD_eq_getElem?_getD, List.getElem?_eq_getElem hi]; rfl
theorem refsB_setR {xs : List Int} {us : List Upd} (hx : refsB xs = true) (hu : Asc 0 us) : refsB (setR xs us) = true := by
  obtain ⟨hl, hr⟩ := (refsB_iff xs).1 hx
  rw [refsB_iff]
  refine ⟨by rw [setR_len]; exact hl, fun x hx => ?_⟩
  obtain ⟨r, h0, h3, rfl⟩ := mem_getR (by rw [setR_len]; exact hl) hx
  rw [getR_setR hu (Int.le_refl 0) hl h0]
  rcases hlk : look us r with _ | u
  · exact hr _ (getR_mem hl h0 h3)
  · exact ((uokB_iff u).1 (hu.mem u (look_some hlk).1).1).2.2.1

theorem applyB_and {xs : List Int} {us : List Upd} (h : applyB xs us = true) : refsB xs = true ∧ updsB us = true ∧ fitsR xs us = true := by
  unfold applyB at h
  simp only [Bool.and_eq_true] at h
  exact ⟨h.1.1, h.1.2, h.2⟩
theorem applyL_yes {xs : List Int} {us : List Upd} (h : applyB xs us = true) : applyL xs us = setR xs us := by
  obtain ⟨h1, h2, h3⟩ := applyB_and h
  unfold applyL; rw [if_pos ⟨h1, h2⟩, if_pos h3]
theorem applyL_no {xs : List Int} {us : List Upd} (h1 : refsB xs = true) (h2 : updsB us = true) (h3 : fitsR xs us = false) : applyL xs us = xs ∧ applyB xs us = false := by
  unfold applyL applyB; rw [if_pos ⟨h1, h2⟩, h3]; simp

/-- updates are performed once -/
theorem apply_twice {xs : List Int} {us : List Upd} (h : applyB xs us = true) : applyB (applyL xs us) us = false ∧ applyL (applyL xs us) us = applyL xs us := by
  obtain ⟨h1, h2, h3⟩ := applyB_and h
  obtain ⟨ha, hne⟩ := updsB_asc h2
  have hl := ((refsB_iff xs).1 h1).1
  rw [applyL_yes h]
  have hr := refsB_setR h1 ha
  have hf : fitsR (setR xs us) us = false := by
    rcases us with _ | ⟨u, us⟩
    · exact absurd rfl hne
    · rw [← Bool.not_eq_true, fitsR_iff]
      intro hall
      have hu := hall u (List.mem_cons_self ..)
      have hok := (uokB_iff u).1 (ha.mem u (List.mem_cons_self ..)).1
      rw [getR_setR ha (Int.le_refl 0) hl hok.1.1, look_mem ha (List.mem_cons_self ..)] at hu
      exact hok.2.2.2 hu.symm
  exact ⟨(applyL_no hr h2 hf).2, (applyL_no hr h2 hf).1⟩

def inv (u : Upd) : Upd := ⟨u.ref, u.new_, u.old⟩
theorem Asc.inv {us : List Upd} : ∀ {lo : Int}, Asc lo us → Asc lo (us.map inv) := by
  induction us with
  | nil => intro _ _; trivial
  | cons u us ih =>
    intro lo h
    obtain ⟨h1, h2, h3⟩ := h
    obtain ⟨a, b, c, d⟩ := (uokB_iff u).1 h1
    exact ⟨(uokB_iff _).2 ⟨a, c, b, fun e => d e.symm⟩, h2, ih h3⟩
/-- updates can be undone -/
theorem apply_back {xs : List Int} {us : List Upd} (h : applyB xs us = true) : applyB (applyL xs us) (us.map inv) = true ∧ applyL (applyL xs us) (us.map inv) = xs := by
  obtain ⟨h1, h2, h3⟩ := applyB_and h
  obtain ⟨ha, hne⟩ := updsB_asc h2
  have hl := ((refsB_iff xs).1 h1).1
  rw [applyL_yes h]
  have hr := refsB_setR h1 ha
  have hu : updsB (us.map inv) = true := asc_updsB ha.inv (by simpa using hne)
  have hf : fitsR (setR xs us) (us.map inv) = true := by
    rw [fitsR_iff]
    intro v hv
    obtain ⟨u, hu, rfl⟩ := List.mem_map.1 hv
    have hok := (uokB_iff u).1 (ha.mem u hu).1
    show getR (setR xs us) u.ref = u.new_
    rw [getR_setR ha (Int.le_refl 0) hl hok.1.1, look_mem ha hu]
  have hB : applyB (setR xs us) (us.map inv) = true := by unfold applyB; rw [hr, hu, hf]; rfl
  refine ⟨hB, ?_⟩
  rw [applyL_yes hB]
  refine list4 (by rw [setR_len, setR_len]; exact hl) hl fun r h0 h3' => ?_
  rw [getR_setR ha.inv (Int.le_refl 0) (by rw [setR_len]; exact hl) h0]
  rcases hlk : look (us.map inv) r with _ | v
  · rw [getR_setR ha (Int.le_refl 0) hl h0]
    rcases hlk2 : look us r with _ | u
    · rfl
    · exfalso
      obtain ⟨hm, hrr⟩ := look_some hlk2
      have := look_mem ha.inv (List.mem_map.2 ⟨u, hm, rfl⟩)
      rw [show (inv u).ref = r from hrr, hlk] at this
      cases this
  · obtain ⟨hm, hrr⟩ := look_some hlk
    obtain ⟨u, hu, rfl⟩ := List.mem_map.1 hm
    have := (fitsR_iff xs us).1 h3 u hu
    rw [show u.ref = r from hrr] at this
    exact this.symm

theorem cross_no {a b : List Upd} (ha : updsB a = true) (hb : updsB b = true) (h : crossB a b = false) : ∀ u ∈ a, ∀ v ∈ b, u.ref ≠ v.ref := by
  unfold crossB at h
  rw [ha, hb] at h
  simp only [Bool.and_true, Bool.true_and] at h
  intro u hu v hv e
  rw [← Bool.not_eq_true] at h
  exact h (List.any_eq_true.2 ⟨u, hu, List.any_eq_true.2 ⟨v, hv, by simp [e]⟩⟩)
theorem look_apart {a b : List Upd} (h : ∀ u ∈ a, ∀ v ∈ b, u.ref ≠ v.ref) (r : Int) {u : Upd} (hu : look a r = some u) : look b r = none := by
  rcases hb : look b r with _ | v
  · rfl
  · have h1 := look_some hu
    have h2 := look_some hb
    exact absurd (h1.2.trans h2.2.symm) (h u h1.1 v h2.1)
theorem fits_apart {xs : List Int} {a b : List Upd} (hl : xs.length = 4) (ha : Asc 0 a) (hb : Asc 0 b) (h : ∀ u ∈ a, ∀ v ∈ b, u.ref ≠ v.ref) : fitsR (setR xs a) b = fitsR xs b := by
  rw [Bool.eq_iff_iff, fitsR_iff, fitsR_iff]
  have key : ∀ v ∈ b, getR (setR xs a) v.ref = getR xs v.ref := by
    intro v hv
    have hok := (uokB_iff v).1 (hb.mem v hv).1
    rw [getR_setR ha (Int.le_refl 0) hl hok.1.1]
    rcases hlk : look a v.ref with _ | u
    · rfl
    · exact absurd (look_some hlk).2 (h u (look_some hlk).1 v hv)
  constructor
  · intro hall v hv; rw [← key v hv]; exact hall v hv
  · intro hall v hv; rw [key v hv]; exact hall v hv
theorem set_comm {xs : List Int} {a b : List Upd} (hl : xs.length = 4) (ha : Asc 0 a) (hb : Asc 0 b) (h : ∀ u ∈ a, ∀ v ∈ b, u.ref ≠ v.ref) : setR (setR xs a) b = setR (setR xs b) a := by
  refine list4 (by rw [setR_len, setR_len]; exact hl) (by rw [setR_len, setR_len]; exact hl) fun r h0 _ => ?_
  rw [getR_setR hb (Int.le_refl 0) (by rw [setR_len]; exact hl) h0, getR_setR ha (Int.le_refl 0) hl h0, getR_setR ha (Int.le_refl 0) (by rw [setR_len]; exact hl) h0, getR_setR hb (Int.le_refl 0) hl h0]
  rcases hka : look a r with _ | u
  · rfl
  · rw [look_apart h r hka]
/-- updates that do not cross commute -/
theorem apply_order {xs : List Int} {a b : List Upd} (hx : refsB xs = true) (ha : updsB a = true) (hb : updsB b = true) (h : crossB a b = false) :
    applyB (applyL xs a) b = applyB xs b ∧ applyB (applyL xs b) a = applyB xs a ∧ applyL (applyL xs a) b = applyL (applyL xs b) a := by
  have hap := cross_no ha hb h
  have hap' : ∀ u ∈ b, ∀ v ∈ a, u.ref ≠ v.ref := fun u hu v hv e => hap v hv u hu e.symm
  have hA := (updsB_asc ha).1
  have hB := (updsB_asc hb).1
  have hl := ((refsB_iff xs).1 hx).1
  have fa := fits_apart hl hA hB hap
  have fb := fits_apart hl hB hA hap'
  have ra := refsB_setR hx hA
  have rb := refsB_setR hx hB
  have e1 : ∀ us, updsB us = true → fitsR xs us = true → applyL xs us = setR xs us := fun us h1 h2 => applyL_yes (by unfold applyB; rw [hx, h1, h2]; rfl)
  have e2 : ∀ us, updsB us = true → fitsR xs us = false → applyL xs us = xs := fun us h1 h2 => (applyL_no hx h1 h2).1
  rcases fA : fitsR xs a with _ | _ <;> rcases fB : fitsR xs b with _ | _
  · rw [e2 a ha fA, e2 b hb fB]; exact ⟨rfl, rfl, (e2 a ha fA).symm⟩
  · rw [e2 a ha fA, e1 b hb fB]
    have n1 := applyL_no rb ha (by rw [fb]; exact fA)
    refine ⟨rfl, ?_, by rw [n1.1]⟩
    rw [n1.2, (applyL_no hx ha fA).2]
  · rw [e1 a ha fA, e2 b hb fB]
    have n1 := applyL_no ra hb (by rw [fa]; exact fB)
    refine ⟨?_, rfl, by rw [n1.1, e1 a ha fA]⟩
    rw [n1.2, (applyL_no hx hb fB).2]
  · rw [e1 a ha fA, e1 b hb fB]
    have y1 : applyB (setR xs a) b = true := by unfold applyB; rw [ra, hb, fa, fB]; rfl
    have y2 : applyB (setR xs b) a = true := by unfold applyB; rw [rb, ha, fb, fA]; rfl
    have y3 : applyB xs b = true := by unfold applyB; rw [hx, hb, fB]; rfl
    have y4 : applyB xs a = true := by unfold applyB; rw [hx, ha, fA]; rfl
    refine ⟨by rw [y1, y3], by rw [y2, y4], ?_⟩
    rw [applyL_yes y1, applyL_yes y2]; exact set_comm hl hA hB hap

end Go.Proofs.Ytgbkjfhmbchiiaa

namespace Go.Proofs.Ytgbkjfhmbchiiaa
set_option linter.unusedVariables false
set_option linter.unusedSimpArgs false
open Go.RowKit

def differFrom (f t : List Int) (a m : Nat) : List Upd := (List.range' a m).flatMap (differAt f t)
theorem differFrom_succ (f t : List Int) (a m : Nat) : differFrom f t a (m + 1) = differAt f t a ++ differFrom f t (a + 1) m := by
  unfold differFrom; rw [List.range'_succ, List.flatMap_cons]
theorem differL_from {f t : List Int} (hf : refsB f = true) (ht : refsB t = true) : differL f t = differFrom f t 0 4 := by
  unfold differL differFrom; rw [if_pos ⟨hf, ht⟩, List.range_eq_range']
theorem getR_nat (xs : List Int) (r : Nat) : getR xs (r : Int) = xs.getD r 0 := by unfold getR; rw [Int.toNat_natCast]

theorem differFrom_asc {f t : List Int} (hf : refsB f = true) (ht : refsB t = true) (m : Nat) : ∀ a : Nat, a + m ≤ 4 → Asc a (differFrom f t a m) := by
  induction m with
  | zero => intro a _; trivial
  | succ m ih =>
    intro a ha
    rw [differFrom_succ]
    unfold differAt
    have hmono : ∀ {lo hi : Int} {us : List Upd}, Asc hi us → lo ≤ hi → Asc lo us := by
      intro lo hi us h hle
      rcases us with _ | ⟨u, us⟩
      · trivial
      · exact ⟨h.1, Int.le_trans hle h.2.1, h.2.2⟩
    by_cases he : f.getD a 0 = t.getD a 0
    · rw [if_pos he]
      exact hmono (ih (a + 1) (by omega)) (by omega)
    · rw [if_neg he]
      have h1 := ((refsB_iff f).1 hf)
      have h2 := ((refsB_iff t).1 ht)
      refine ⟨(uokB_iff _).2 ⟨⟨by show (0 : Int) ≤ (a : Int); omega, by show (a : Int) ≤ 3; omega⟩, ?_, ?_, he⟩, Int.le_refl _, by simpa using ih (a + 1) (by omega)⟩
      · show rid (f.getD a 0) = true
        rw [← getR_nat]; exact h1.2 _ (getR_mem h1.1 (by omega) (by omega))
      · show rid (t.getD a 0) = true
        rw [← getR_nat]; exact h2.2 _ (getR_mem h2.1 (by omega) (by omega))
theorem differFrom_mem {f t : List Int} {a m : Nat} {u : Upd} (h : u ∈ differFrom f t a m) : ∃ r : Nat, a ≤ r ∧ r < a + m ∧ f.getD r 0 ≠ t.getD r 0 ∧ u = ⟨r, f.getD r 0, t.getD r 0⟩ := by
  unfold differFrom at h
  obtain ⟨r, hr, hu⟩ := List.mem_flatMap.1 h
  rw [List.mem_range'_1] at hr
  unfold differAt at hu
  by_cases he : f.getD r 0 = t.getD r 0
  · rw [if_pos he] at hu; cases hu
  · rw [if_neg he] at hu
    exact ⟨r, hr.1, hr.2, he, List.mem_singleton.1 hu⟩
theorem differFrom_has {f t : List Int} {a m r : Nat} (h1 : a ≤ r) (h2 : r < a + m) (he : f.getD r 0 ≠ t.getD r 0) : (⟨r, f.getD r 0, t.getD r 0⟩ : Upd) ∈ differFrom f t a m := by
  unfold differFrom
  refine List.mem_flatMap.2 ⟨r, List.mem_range'_1.2 ⟨h1, h2⟩, ?_⟩
  unfold differAt; rw [if_neg he]; exact List.mem_singleton.2 rfl

/-- differences lead from one to the other -/
theorem differ_apply {f t : List Int} (hf : refsB f = true) (ht : refsB t = true) :
    (differL f t = [] → f = t) ∧ (differL f t ≠ [] → updsB (differL f t) = true ∧ applyB f (differL f t) = true ∧ applyL f (differL f t) = t) := by
  have hfl := ((refsB_iff f).1 hf).1
  have htl := ((refsB_iff t).1 ht).1
  rw [differL_from hf ht]
  have hasc := differFrom_asc hf ht 4 0 (by omega)
  constructor
  · intro he
    refine list4 hfl htl fun r h0 h3 => ?_
    obtain ⟨q, rfl⟩ := Int.eq_ofNat_of_zero_le h0
    rw [getR_nat, getR_nat]
    rcases Decidable.em (f.getD q 0 = t.getD q 0) with h | h
    · exact h
    · have := differFrom_has (m := 4) (Nat.zero_le q) (by omega) h
      rw [he] at this; cases this
  · intro hne
    have hu := asc_updsB hasc hne
    have hfit : fitsR f (differFrom f t 0 4) = true := by
      rw [fitsR_iff]
      intro u hu
      obtain ⟨r, _, _, _, rfl⟩ := differFrom_mem hu
      exact getR_nat f r
    have hB : applyB f (differFrom f t 0 4) = true := by unfold applyB; rw [hf, hu, hfit]; rfl
    refine ⟨hu, hB, ?_⟩
    rw [applyL_yes hB]
    refine list4 (by rw [setR_len]; exact hfl) htl fun r h0 h3 => ?_
    rw [getR_setR hasc (Int.le_refl 0) hfl h0]
    obtain ⟨q, rfl⟩ := Int.eq_ofNat_of_zero_le h0
    rcases hlk : look (differFrom f t 0 4) (q : Int) with _ | u
    · show getR f (q : Int) = getR t (q : Int)
      rw [getR_nat, getR_nat]
      rcases Decidable.em (f.getD q 0 = t.getD q 0) with h | h
      · exact h
      · have := look_mem hasc (differFrom_has (m := 4) (Nat.zero_le q) (by omega) h)
        rw [show ((⟨q, f.getD q 0, t.getD q 0⟩ : Upd).ref) = (q : Int) from rfl, hlk] at this
        cases this
    · obtain ⟨hm, hr⟩ := look_some hlk
      obtain ⟨r, _, _, _, rfl⟩ := differFrom_mem hm
      have : r = q := by have : (r : Int) = (q : Int) := hr; omega
      subst this
      exact (getR_nat t r).symm

theorem differFrom_eq {f t : List Int} (m : Nat) : ∀ (a : Nat) (us : List Upd), Asc a us → (∀ u ∈ us, u.ref < a + m) →
    (∀ r : Nat, a ≤ r → r < a + m → match look us r with | some u => f.getD r 0 = u.old ∧ t.getD r 0 = u.new_ | none => f.getD r 0 = t.getD r 0) → differFrom f t a m = us := by
  induction m with
  | zero =>
    intro a us h hb _
    rcases us with _ | ⟨u, us⟩
    · rfl
    · have h1 := h.2.1
      have h2 := hb u (List.mem_cons_self ..)
      omega
  | succ m ih =>
    intro a us h hb hlk
    rw [differFrom_succ]
    have ha := hlk a (Nat.le_refl _) (by omega)
    have hmono : ∀ {lo hi : Int} {us : List Upd}, Asc lo us → (∀ u ∈ us, hi ≤ u.ref) → Asc hi us := by
      intro lo hi us h hall
      rcases us with _ | ⟨u, us⟩
      · trivial
      · exact ⟨h.1, hall u (List.mem_cons_self ..), h.2.2⟩
    rcases us with _ | ⟨u, us⟩
    · have hn : look [] (a : Int) = none := rfl
      rw [hn] at ha
      unfold differAt
      rw [if_pos ha, List.nil_append]
      exact ih (a + 1) [] trivial (by simp) fun r h1 h2 => hlk r (by omega) (by omega)
    · by_cases hu : u.ref = (a : Int)
      · have hlu : look (u :: us) (a : Int) = some u := by unfold look; rw [List.find?_cons_of_pos (by simp [hu])]
        rw [hlu] at ha
        have hok := (uokB_iff u).1 h.1
        have e : differAt f t a = [u] := by
          unfold differAt
          rw [if_neg (by rw [ha.1, ha.2]; exact hok.2.2.2), ha.1, ha.2]
          congr 1
          rcases u with ⟨r, o, n⟩
          simp only [Upd.mk.injEq, and_true]; exact hu.symm
        rw [e]
        have h3 : Asc ((a + 1 : Nat) : Int) us := by have := h.2.2; rw [hu] at this; exact_mod_cast this
        have : differFrom f t (a + 1) m = us := ih (a + 1) us h3 (fun v hv => by have := hb v (List.mem_cons_of_mem _ hv); omega) fun r h1 h2 => by
          have := hlk r (by omega) (by omega)
          have e2 : look (u :: us) (r : Int) = look us (r : Int) := by unfold look; rw [List.find?_cons_of_neg (by simp; omega)]
          rw [e2] at this; exact this
        rw [this]; rfl
      · have hlo : (a : Int) + 1 ≤ u.ref := by have := h.2.1; omega
        have hall : ∀ v ∈ u :: us, ((a + 1 : Nat) : Int) ≤ v.ref := by
          intro v hv
          rcases List.mem_cons.1 hv with rfl | hv
          · omega
          · have := (h.2.2.mem v hv).2; omega
        have h3 := hmono h hall
        have hn : look (u :: us) (a : Int) = none := look_none h3 (by omega)
        rw [hn] at ha
        unfold differAt
        rw [if_pos ha, List.nil_append]
        exact ih (a + 1) (u :: us) h3 (fun v hv => by have := hb v hv; omega) fun r h1 h2 => hlk r (by omega) (by omega)

/-- performed updates are the differences -/
theorem apply_differ {xs : List Int} {us : List Upd} (h : applyB xs us = true) : differL xs (applyL xs us) = us := by
  obtain ⟨h1, h2, h3⟩ := applyB_and h
  obtain ⟨ha, hne⟩ := updsB_asc h2
  have hl := ((refsB_iff xs).1 h1).1
  rw [applyL_yes h, differL_from h1 (refsB_setR h1 ha)]
  refine differFrom_eq 4 0 us ha (fun u hu => ?_) fun r _ hr => ?_
  · have := ((uokB_iff u).1 (ha.mem u hu).1).1.2
    omega
  · have hs := getR_setR (xs := xs) ha (Int.le_refl 0) hl (r := (r : Int)) (by omega)
    rw [getR_nat] at hs
    rcases hlk : look us (r : Int) with _ | u
    · rw [hlk] at hs
      rw [hs]; exact (getR_nat xs r).symm
    · rw [hlk] at hs
      obtain ⟨hm, hrr⟩ := look_some hlk
      have := (fitsR_iff xs us).1 h3 u hm
      rw [hrr, getR_nat] at this
      exact ⟨this, hs⟩

/-- what the law FnApplyRefs asks of each ref: its last update's new id, or its old id -/
def lastR (d : Int) (r : Int) (us : List Upd) : Int := us.foldl (fun x u => if u.ref = r then u.new_ else x) d
theorem lastR_look {us : List Upd} : ∀ {lo : Int} (d r : Int), Asc lo us → lastR d r us = match look us r with | some u => u.new_ | none => d := by
  unfold lastR
  induction us with
  | nil => intro lo d r _; rfl
  | cons u us ih =>
    intro lo d r h
    rw [List.foldl_cons, ih _ r h.2.2]
    by_cases hu : u.ref = r
    · rw [look_none h.2.2 (by omega), if_pos hu]
      unfold look; rw [List.find?_cons_of_pos (by simp [hu])]
    · rw [if_neg hu]
      have : look (u :: us) r = look us r := by unfold look; rw [List.find?_cons_of_neg (by simp [hu])]
      rw [this]
theorem apply_refs {xs : List Int} {us : List Upd} (h : applyB xs us = true) : refsB (applyL xs us) = true ∧ ∀ r : Int, 0 ≤ r → getR (applyL xs us) r = lastR (getR xs r) r us := by
  obtain ⟨h1, h2, h3⟩ := applyB_and h
  obtain ⟨ha, hne⟩ := updsB_asc h2
  have hl := ((refsB_iff xs).1 h1).1
  rw [applyL_yes h]
  exact ⟨refsB_setR h1 ha, fun r h0 => by rw [getR_setR ha (Int.le_refl 0) hl h0, lastR_look _ r ha]; try (cases look us r <;> rfl)⟩

end Go.Proofs.Ytgbkjfhmbchiiaa
