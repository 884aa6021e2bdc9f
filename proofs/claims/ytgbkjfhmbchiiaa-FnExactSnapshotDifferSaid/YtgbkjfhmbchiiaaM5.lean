/-
  The datum of Coordinator, and the walks of the laws' functions that count, copy and compare it (szCoordinator, toCoordinator, eqCoordinator and those over slices). Condition: lengths fit an int64.
  How the arguments of a law are opened: a slice of integers that came in is nil or leads to a row of cells. No condition.
  How an argument that is a slice of structs of one-cell fields is opened to a list (after the guide's small lemmas on structs). No condition.
  The walks of szUpdateS, toUpdateS, eqUpdateS, markUpdateS, heldUpdateS and of what they call, and how an argument of type []laws.Update is opened. Condition: lengths fit an int64.
-/
import Derived.Test.YtgbkjfhmbchiiaaM4
import Derived.StillTailTactics
import Derived.Test.YtgbkjfhmbchiiaaM1
import Derived.ProofKit
import Derived.OpenShut
import Derived.ShutString
import Derived.ChangeOld
import Derived.Below
import Derived.Deep.Slices
import Derived.Deep.Fields
import Derived.ChangeSame
import Derived.Test.YtgbkjfhmbchiiaaM2
namespace Go.Proofs.Ytgbkjfhmbchiiaa
set_option linter.unusedVariables false
set_option linter.unusedSimpArgs false
open Go.RowKit

/-- the fields of a value of type Coordinator -/
def fCoordinator (x : CoordD) : List D := [dTxns x.txns, intsD x.order]
theorem fCoordinator_len (x : CoordD) : (fCoordinator x).length = 2 := rfl
/-- a slice of them -/
def dCoordinators (xs : List CoordD) : D := .arr 2 xs.length (xs.flatMap fCoordinator)
theorem szL_fCoordinator (x : CoordD) : D.szL (fCoordinator x) = D.sz (dTxns x.txns) + D.sz (intsD x.order) := by
  unfold fCoordinator
  simp only [szL_cons, szL_nil, sz_int, sz_str]
  omega

theorem rd_Coordinator {w : World} {lo hi n k c : Nat} {A : Option Addr} {xs : List CoordD} (h : D.rd w lo hi (dCoordinators xs) (.slice A n c)) (hk : k < n) :
    ∃ (b o : Nat) (hl : k < xs.length) (A0 : Option Addr) (n0 c0 : Nat) (A1 : Option Addr) (n1 c1 : Nat), A = some ⟨b, o, none⟩ ∧ lo ≤ b ∧ b < hi ∧ w.cell? ⟨b, o + k * 2, none⟩ = some (.slice A0 n0 c0) ∧ w.cell? ⟨b, o + k * 2 + 1, none⟩ = some (.slice A1 n1 c1) ∧ (n0 ≤ c0 ∧ c0 ≤ 9223372036854775807 ∧ D.rd w lo hi (dTxns xs[k].txns) (.slice A0 n0 c0)) ∧ (n1 ≤ c1 ∧ c1 ≤ 9223372036854775807 ∧ D.rd w lo hi (intsD xs[k].order) (.slice A1 n1 c1)) := by
  have hn := h.len.1
  obtain ⟨b, o, hl, rfl, g1, g2, hc⟩ := h.at_ fCoordinator_len (by omega) (k := k) (by omega)
  obtain ⟨u0, hu0, hr0⟩ := hc 0 _ rfl
  obtain ⟨A0, c0, rfl, hn0, hm0, hd0⟩ := D.rd.arr_inv hr0
  obtain ⟨u1, hu1, hr1⟩ := hc 1 _ rfl
  obtain ⟨A1, c1, rfl, hn1, hm1, hd1⟩ := D.rd.arr_inv hr1
  exact ⟨b, o, hl, A0, _, c0, A1, _, c1, rfl, g1, g2, hu0, hu1, ⟨hn0, hm0, hd0⟩, ⟨hn1, hm1, hd1⟩⟩

theorem sz_Coordinator_get {xs : List CoordD} {x : CoordD} (hx : x ∈ xs) : D.szL (fCoordinator x) ≤ D.sz (dCoordinators xs) := by
  unfold dCoordinators
  rw [sz_arr]
  have := szL_get fCoordinator xs hx
  omega

set_option maxRecDepth 100000 in
set_option maxHeartbeats 800000 in
theorem szCoordinator_d (txns : List TxnD) (order : List Int) (A0 : Option Addr) (n0 c0 : Nat) (A1 : Option Addr) (n1 c1 : Nat) (left : Int) (w : World) (lo hi : Nat) (hh : hi ≤ w.heap.size) (hr0 : D.rd w lo hi (dTxns txns) (.slice A0 n0 c0)) (hr1 : D.rd w lo hi (intsD order) (.slice A1 n1 c1)) (h0 : 0 ≤ left) (hl : left ≤ 1048576) :
    Calls Try.prog 13 #[.agg #[.slice A0 n0 c0, .slice A1 n1 c1], .int .i64 left] w fun e w' => SzR left (D.szL (fCoordinator (⟨txns, order⟩ : CoordD))) w e w' := by
  have HR0 := Lib.hid hr0
  have HR1 := Lib.hid hr1
  have HB0 : Hid (Below w.heap.size w (w.alloc (.cells #[.slice A0 n0 c0, .slice A1 n1 c1] 35))) := (Below.refl _ _).alloc (Nat.le_refl _) _
  clear hr0 hr1
  go_enter Try.func13, Try.ntmps13
  go_wp2_with fail
  refine (szTxnS_d txns A0 n0 c0 _ _ lo hi (Nat.le_trans hh HB0.out.size) (HR0.out.below HB0.out hh) (by omega) (by omega)).mono ?_
  rintro e w1 ⟨r1, ha1, hb1, hs1, hw1, rfl⟩
  have HB1 := Lib.hid (bel_tr HB0.out (Nat.le_refl _) hw1)
  obtain ⟨hcc1, hcf1⟩ := bcell hw1
  have hz1 : w.heap.size < w1.heap.size := by have h1 := hw1.size; first | (simp at h1; omega) | omega
  clear hw1
  by_cases hq1 : r1 < 0
  · go_wp2_with fail
    go_ret
    exact ⟨-1, by omega, by omega, by omega, HB1.out, rfl⟩
  have hp1 : 0 ≤ r1 := by omega
  have hs1' := hs1 hp1
  clear hq1 hs1
  go_wp2_with fail
  refine (szIntS_d order A1 n1 c1 _ _ lo hi (Nat.le_trans hh HB1.out.size) (HR1.out.below HB1.out hh) (by omega) (by omega)).mono ?_
  rintro e w2 ⟨r2, ha2, hb2, hs2, hw2, rfl⟩
  have HB2 := Lib.hid (bel_tr HB1.out (Nat.le_refl _) hw2)
  obtain ⟨hcc2, hcf2⟩ := bcell hw2
  have hz2 : w.heap.size < w2.heap.size := by have h1 := hw2.size; first | (simp at h1; omega) | omega
  clear hw2
  by_cases hq2 : r2 < 0
  · go_wp2_with fail
    go_ret
    exact ⟨-1, by omega, by omega, by omega, HB2.out, rfl⟩
  have hp2 : 0 ≤ r2 := by omega
  have hs2' := hs2 hp2
  clear hq2 hs2
  go_wp2_with fail
  go_ret
  exact ⟨_, by omega, by omega, fun _ => by have h9 := szL_fCoordinator ⟨txns, order⟩; dsimp only at h9; omega, HB2.out, rfl⟩

set_option maxRecDepth 100000 in
set_option maxHeartbeats 1600000 in
theorem toCoordinator_d (txns : List TxnD) (order : List Int) (A0 : Option Addr) (n0 c0 : Nat) (A1 : Option Addr) (n1 c1 : Nat) (w : World) (lo hi : Nat) (hh : hi ≤ w.heap.size) (hr0 : D.rd w lo hi (dTxns txns) (.slice A0 n0 c0)) (hr1 : D.rd w lo hi (intsD order) (.slice A1 n1 c1)) (hs0 : D.sz (dTxns txns) ≤ 1048576) (hs1 : D.sz (intsD order) ≤ 1048576) :
    Calls Try.prog 14 #[.agg #[.slice A0 n0 c0, .slice A1 n1 c1]] w fun e w' => ∃ (B0 : Option Addr) (bc0 : Nat) (B1 : Option Addr) (bc1 : Nat), OwnL w' w.heap.size (fCoordinator (⟨txns, order⟩ : CoordD)) [.slice B0 n0 bc0, .slice B1 n1 bc1] ∧ Below w.heap.size w w' ∧ e = .returned (.agg #[.slice B0 n0 bc0, .slice B1 n1 bc1]) := by
  have HR0 := Lib.hid hr0
  have HR1 := Lib.hid hr1
  clear hr0 hr1
  go_enter Try.func14, Try.ntmps14
  have HB0 : Hid (Below w.heap.size w (((w.alloc (.cells #[.slice A0 n0 c0, .slice A1 n1 c1] 35)).alloc (.cells #[.slice none 0 0, .slice none 0 0] 26)).alloc (.cells #[.slice none 0 0, .slice none 0 0] 26))) := (((Below.refl _ _).alloc (Nat.le_refl _) _).alloc (by simp) _).alloc (by simp; omega) _
  have HL0 : Hid (OwnL (((w.alloc (.cells #[.slice A0 n0 c0, .slice A1 n1 c1] 35)).alloc (.cells #[.slice none 0 0, .slice none 0 0] 26)).alloc (.cells #[.slice none 0 0, .slice none 0 0] 26)) (w.heap.size + 1 + 1 + 1) [] []) := Lib.hid (OwnL.nil _ _)
  go_wp2_with fail
  refine (toTxnS_d txns A0 n0 c0 _ lo hi (Nat.le_trans hh HB0.out.size) (HR0.out.below HB0.out hh) hs0).mono ?_
  rintro e w1 ⟨B0, bc0, ho0, hw1, rfl⟩
  have HL1 : Hid (OwnL w1 (w.heap.size + 1 + 1 + 1) [dTxns txns] [.slice B0 n0 bc0]) := Lib.hid (HL0.out.snoc (Nat.le_refl _) hw1 ho0 (by simp))
  have HB1 := Lib.hid (bel_tr HB0.out (Nat.le_refl _) hw1)
  obtain ⟨hcc1, hcf1⟩ := bcell hw1
  have hz1 : w.heap.size + 1 + 1 < w1.heap.size := by have h1 := hw1.size; simp at h1; omega
  have hz1a : w.heap.size + 1 < w1.heap.size := by omega
  have hz1b : w.heap.size < w1.heap.size := by omega
  clear hw1 ho0
  have HL1p : Hid (OwnL (w1.setCell ⟨w.heap.size + 1 + 1, 0, none⟩ (.slice B0 n0 bc0)) (w.heap.size + 1 + 1 + 1) [dTxns txns] [.slice B0 n0 bc0]) := Lib.hid ((HL1.out).set (by omega) _ _)
  have HB1p : Hid (Below w.heap.size w (w1.setCell ⟨w.heap.size + 1 + 1, 0, none⟩ (.slice B0 n0 bc0))) := Lib.hid ((HB1.out).setCell (by first | (simp; done) | (simp; omega)) _)
  go_wp2_with fail
  refine (toIntS_d order A1 n1 c1 _ lo hi (Nat.le_trans hh HB1p.out.size) (HR1.out.below HB1p.out hh) hs1).mono ?_
  rintro e w2 ⟨B1, bc1, ho1, hw2, rfl⟩
  have HL2 : Hid (OwnL w2 (w.heap.size + 1 + 1 + 1) [dTxns txns, intsD order] [.slice B0 n0 bc0, .slice B1 n1 bc1]) := Lib.hid (HL1p.out.snoc (Nat.le_refl _) hw2 ho1 (by first | (simp; done) | (have := hz1; simp; omega)))
  have HB2 := Lib.hid (bel_tr HB1p.out (Nat.le_refl _) hw2)
  obtain ⟨hcc2, hcf2⟩ := bcell hw2
  have hz2 : w.heap.size + 1 + 1 < w2.heap.size := by have h1 := hw2.size; simp at h1; omega
  have hz2a : w.heap.size + 1 < w2.heap.size := by omega
  have hz2b : w.heap.size < w2.heap.size := by omega
  clear hw2 ho1
  go_wp2_with fail
  exact bodyPost_ret (v := .agg #[.slice B0 n0 bc0, .slice B1 n1 bc1]) (by simp [results, Try.results14, go_sem, hcc1, hcf1, hz1, hz1a, hz1b, hcc2, hcf2, hz2, hz2a, hz2b]) rfl ⟨B0, bc0, B1, bc1, ((((HL2.out).set (by omega) _ _).set (by omega) _ _).set (by omega) _ _).low (by omega), (((HB2.out).setCell (by first | (simp; done) | (simp; omega)) _).setCell (by first | (simp; done) | (simp; omega)) _).setCell (by first | (simp; done) | (simp; omega)) _, rfl⟩

set_option maxRecDepth 100000 in
set_option maxHeartbeats 1600000 in
theorem eqCoordinator_d (txns : List TxnD) (order : List Int) (A0 : Option Addr) (n0 c0 : Nat) (A1 : Option Addr) (n1 c1 : Nat) (B0 : Option Addr) (bn0 bc0 : Nat) (B1 : Option Addr) (bn1 bc1 : Nat) (w : World) (lo hi lo' hi' : Nat) (hh : hi ≤ w.heap.size) (hh' : hi' ≤ w.heap.size) (hr0 : D.rd w lo hi (dTxns txns) (.slice A0 n0 c0)) (hr1 : D.rd w lo hi (intsD order) (.slice A1 n1 c1)) (hq0 : D.rd w lo' hi' (dTxns txns) (.slice B0 bn0 bc0)) (hq1 : D.rd w lo' hi' (intsD order) (.slice B1 bn1 bc1)) :
    Calls Try.prog 15 #[.agg #[.slice A0 n0 c0, .slice A1 n1 c1], .agg #[.slice B0 bn0 bc0, .slice B1 bn1 bc1]] w fun e w' => e = .returned (.bool true) ∧ Below w.heap.size w w' := by

  have HR0 := Lib.hid hr0
  have HQ0 := Lib.hid hq0
  have HR1 := Lib.hid hr1
  have HQ1 := Lib.hid hq1
  clear hr0 hq0 hr1 hq1
  have HB0 : Hid (Below w.heap.size w ((w.alloc (.cells #[.slice A0 n0 c0, .slice A1 n1 c1] 26)).alloc (.cells #[.slice B0 bn0 bc0, .slice B1 bn1 bc1] 26))) := ((Below.refl _ _).alloc (Nat.le_refl _) _).alloc (by simp) _
  go_enter Try.func15, Try.ntmps15
  go_wp2_with fail
  refine (eqTxnS_d txns A0 B0 n0 bn0 c0 bc0 _ lo hi lo' hi' (Nat.le_trans hh HB0.out.size) (Nat.le_trans hh' HB0.out.size) (HR0.out.below HB0.out hh) (HQ0.out.below HB0.out hh')).mono ?_
  rintro e w1 ⟨rfl, hw1⟩
  have HB1 := Lib.hid (bel_tr HB0.out (Nat.le_refl _) hw1)
  obtain ⟨hcc1, hcf1⟩ := bcell hw1
  have hz1 : w.heap.size + 1 < w1.heap.size := by have h1 := hw1.size; simp at h1; omega
  have hz1b : w.heap.size < w1.heap.size := by omega
  clear hw1
  go_wp2_with fail
  refine (eqIntS_d order A1 B1 n1 bn1 c1 bc1 _ lo hi lo' hi' (HR1.out.below HB1.out hh) (HQ1.out.below HB1.out hh')).mono ?_
  rintro e w2 ⟨rfl, hw2⟩
  have HB2 := Lib.hid (bel_tr HB1.out (Nat.le_refl _) hw2)
  obtain ⟨hcc2, hcf2⟩ := bcell hw2
  have hz2 : w.heap.size + 1 < w2.heap.size := by have h1 := hw2.size; omega
  have hz2b : w.heap.size < w2.heap.size := by omega
  clear hw2
  go_wp2_with fail
  go_ret
  exact ⟨rfl, HB2.out⟩

end Go.Proofs.Ytgbkjfhmbchiiaa

namespace Go.Proofs.Ytgbkjfhmbchiiaa
set_option linter.unusedVariables false
set_option linter.unusedSimpArgs false
open Go.ChangeShapes Go.WideShapes Go.ChangeAt Go.RowKit
open Go.ChangeMaps (open_string shut_string)

theorem Try.own : ownKnob Try.prog.godebug = none := by kernel_rfl
theorem Try.laidOut : laidOutB Try.prog = true := by kernel_rfl

/-- what is known of a slice of integers that came in: nil, or a row of 'cap' cells of which the first 'len' are its elements; each fits its kind -/
def IsRow (k : IntKind) (w : World) (a : Option Addr) (len cap : Nat) (zs : List Int) : Prop :=
  (a = none ∧ len = 0 ∧ cap = 0 ∧ zs = []) ∨
  ∃ x, a = some x ∧ len ≤ cap ∧ cap ≤ maxLen ∧ zs.length = cap ∧ (∀ i, i < zs.length → w.cell? (x.add i) = some (.int k (zs.getD i 0))) ∧ ∀ n ∈ zs, (Lit.int k n).wf = true

theorem open_row {H : Type} {enc : TypeId × Value → H} {P : Program} {w : World} {spare : Nat → Bool} {held : Bool} {t e : TypeId} {k : IntKind} (ht : P.underlying t = some (.slice e)) (he : P.underlying e = some (.int k)) (hce : P.cellsOf e = 1)
    {a : Option Addr} {len cap : Nat} {d : DataW H} {pl : List MemPlace} (h : DataW.Trod enc P w 0 spare held t (.slice a len cap) d pl) (hs : ∀ b, spare b = true) : ∃ zs, IsRow k w a len cap zs := by
  obtain ⟨fuel, hf⟩ := h
  rcases open_ints ht he hce hf with ⟨hcs, _⟩ | ⟨x, l, c, zs, hcs, _, hl, hm, hz, _, hcell, hwz⟩
  · simp [Value.cells] at hcs
    obtain ⟨rfl, rfl, rfl⟩ := hcs
    exact ⟨[], .inl ⟨rfl, rfl, rfl, rfl⟩⟩
  · simp [Value.cells] at hcs
    obtain ⟨rfl, rfl, rfl⟩ := hcs
    exact ⟨zs, .inr ⟨_, rfl, hl, hm, by simpa [hs] using hz, hcell, hwz⟩⟩

theorem IsRow.cap {k : IntKind} {w : World} {a : Option Addr} {len cap : Nat} {zs : List Int} (h : IsRow k w a len cap zs) : len ≤ cap ∧ cap ≤ maxLen := by
  rcases h with ⟨_, rfl, rfl, _⟩ | ⟨x, _, h1, h2, _⟩
  · exact ⟨Nat.le_refl _, Nat.zero_le _⟩
  · exact ⟨h1, h2⟩
theorem IsRow.bd {k : IntKind} {w : World} {a : Option Addr} {len cap : Nat} {zs : List Int} (h : IsRow k w a len cap zs) : len ≤ 9223372036854775807 := by
  have := h.cap; unfold maxLen at this; omega

/-- an integer's cell, of kind k -/
def ck (k : IntKind) (x : Int) : List Value := [.int k x]
theorem IsRow.fl {k : IntKind} {w : World} {a : Option Addr} {len cap : Nat} {zs : List Int} (h : IsRow k w a len cap zs) : Fl (ck k) w 0 w.heap.size a len (zs.take len) := by
  rcases h with ⟨rfl, rfl, rfl, rfl⟩ | ⟨x, rfl, h1, h2, hz, hc, _⟩
  · exact Fl.nil _ _ _ _ _
  · refine ⟨by rw [List.length_take]; omega, fun hne => ?_⟩
    have hl : 0 < len := by
      rcases Nat.eq_zero_or_pos len with h0 | h0
      · subst h0; exact absurd rfl hne
      · exact h0
    have h0 := hc 0 (by omega)
    have hx : x = ⟨x.block, x.off, none⟩ := by
      rcases x with ⟨b, o, _ | s⟩
      · rfl
      · simp [Addr.add, World.cell?] at h0
        split at h0 <;> simp at h0
    have hb : x.block < w.heap.size := World.block_lt_of_cell? w (x.add 0) h0
    refine ⟨x.block, x.off, by rw [← hx], Nat.zero_le _, hb, fun j u hu => ?_⟩
    have e : ((zs.take len).flatMap (ck k)) = (zs.take len).map (Value.int k) := by
      induction (zs.take len) with
      | nil => rfl
      | cons y ys ih => simp [ck, ih]
    rw [e, List.getElem?_map] at hu
    have hj : j < (zs.take len).length := by
      rcases Nat.lt_or_ge j (zs.take len).length with h | h
      · exact h
      · rw [List.getElem?_eq_none h] at hu; cases hu
    rw [List.length_take] at hj
    rw [List.getElem?_take, if_pos (by omega), List.getElem?_eq_getElem (by omega)] at hu
    injection hu with hu
    have := hc j (by omega)
    rw [List.getD_eq_getElem?_getD, List.getElem?_eq_getElem (by omega)] at this
    have e2 : x.add j = ⟨x.block, x.off + j, none⟩ := by
      unfold Addr.add
      by_cases hj0 : j = 0
      · subst hj0; rw [if_pos rfl]; exact hx
      · rw [if_neg hj0]
    rw [← e2, this, ← hu]; rfl
theorem IsRow.ints {w : World} {a : Option Addr} {len cap : Nat} {zs : List Int} (h : IsRow .i64 w a len cap zs) : Ints w 0 w.heap.size a len (zs.take len) := h.fl
theorem IsRow.wf {k : IntKind} {w : World} {a : Option Addr} {len cap : Nat} {zs : List Int} (h : IsRow k w a len cap zs) : ∀ n ∈ zs.take len, (Lit.int k n).wf = true := by
  intro n hn
  rcases h with ⟨rfl, rfl, rfl, rfl⟩ | ⟨x, rfl, h1, h2, hz, hc, hw⟩
  · cases hn
  · exact hw n (List.mem_of_mem_take hn)

end Go.Proofs.Ytgbkjfhmbchiiaa

namespace Go.Proofs.Ytgbkjfhmbchiiaa
set_option linter.unusedVariables false
set_option linter.unusedSimpArgs false
open Go.ChangeShapes Go.WideShapes Go.Deep Go.RowKit

section
variable {H : Type} {enc : TypeId × Value → H} {P : Program} {w : World} {base : Nat} {spare : Nat → Bool} {held : Bool}
theorem open_slice_fields {t e : TypeId} {fs : Array Field} {fuel : Nat} {cs : List Value} {x : DataW H × List MemPlace} (ht : P.underlying t = some (.slice e)) (he : P.underlying e = some (.struct fs))
    (hone : oneCellFields P fs = true) (hC : P.cellsOf e = fs.size) (h : DataW.trod enc P w base spare held fuel t cs = some x) :
    (cs = [.slice none 0 0] ∧ x = (.nil, [])) ∨
    ∃ (a : Addr) (len cap m : Nat) (D : Nat → DataW H) (Pl : Nat → List MemPlace), cs = [.slice (some a) len cap] ∧ base ≤ a.block ∧ len ≤ cap ∧ cap ≤ maxLen ∧ m = (if spare a.block then cap else len) ∧
      x = (.slice ((List.range len).map D) ((List.range (m - len)).map fun j => D (len + j)), MemPlace.row a (m * fs.size) ++ (List.range m).flatMap Pl) ∧
      ∀ i, i < m → ∃ (ys : List (DataW H × List MemPlace)) (n : Nat), D i = .agg (ys.map (·.1)) ∧ Pl i = ys.flatMap (·.2) ∧ ys.length = fs.size ∧
        ∀ (j : Nat) (f : Field), fs[j]? = some f → ∃ (v : Value) (y : DataW H × List MemPlace), w.cell? (a.add (i * fs.size + j)) = some v ∧ ys[j]? = some y ∧ DataW.trod enc P w base spare held n f.type [v] = some y := by
  rcases open_slice ht h with h0 | ⟨a, len, cap, m, n, D, Pl, hcs, hb, hl, hm, hmm, hx, hi⟩
  · exact .inl h0
  · refine .inr ⟨a, len, cap, m, D, Pl, hcs, hb, hl, hm, hmm, by rw [hC] at hx; exact hx, fun i him => ?_⟩
    obtain ⟨cs', hc, ht'⟩ := hi i him
    rw [hC] at hc
    obtain ⟨ys, n', hn', hy, hlen, hyl, hf⟩ := DataW.trod_struct he ht'
    obtain ⟨_, hcl, hat⟩ := World.cells?_some hc
    simp only [Prod.mk.injEq] at hy
    refine ⟨ys, n', hy.1, hy.2, hyl, fun j f hj => ?_⟩
    obtain ⟨ho, hk⟩ := hone_of hone j f hj
    have hjl : j < fs.size := (Array.getElem?_eq_some_iff.1 hj).1
    have hcell := hat j hjl
    have hv : cs'[j]? = some (cs'[j]'(by omega)) := List.getElem?_eq_getElem (by omega)
    have h1 := hf j f hj
    rw [ho, hk] at h1
    have hone' : (cs'.drop j).take 1 = [cs'[j]'(by omega)] := by
      rw [List.drop_eq_getElem_cons (by omega)]
      rfl
    rw [hone'] at h1
    have hys : ys[j]? = some (ys[j]'(by omega)) := List.getElem?_eq_getElem (by omega)
    refine ⟨_, _, ?_, hys, h1.trans hys⟩
    rw [← Go.Deep.add_add, hcell, hv]
end

theorem addr_lit {w : World} {a : Addr} {j : Nat} {v : Value} (h : w.cell? (a.add j) = some v) : a.add j = ⟨a.block, a.off + j, none⟩ := by
  rcases a with ⟨b, o, _ | s⟩
  · unfold Addr.add; by_cases hj : j = 0 <;> simp [hj]
  · by_cases hj : j = 0
    · subst hj; simp [Addr.add, World.cell?] at h; split at h <;> simp at h
    · simp [Addr.add, hj]
/-- a row behind an address whose first cell is there is a row behind a plain address -/
theorem addr_plain {w : World} {a : Addr} {v : Value} (h : w.cell? (a.add 0) = some v) : a = ⟨a.block, a.off, none⟩ := by
  have := addr_lit h
  simpa [Addr.add] using this

theorem list_of {α : Type} {P : Nat → α → Prop} (n : Nat) (h : ∀ i, i < n → ∃ x, P i x) : ∃ xs : List α, xs.length = n ∧ ∀ i (hi : i < xs.length), P i xs[i] := by
  induction n with
  | zero => exact ⟨[], rfl, fun i hi => absurd hi (by simp)⟩
  | succ n ih =>
    obtain ⟨xs, hl, hp⟩ := ih fun i hi => h i (by omega)
    obtain ⟨x, hx⟩ := h n (by omega)
    refine ⟨xs ++ [x], by simp [hl], fun i hi => ?_⟩
    by_cases hin : i < xs.length
    · rw [List.getElem_append_left hin]; exact hp i hin
    · have : i = n := by simp at hi; omega
      subst this
      rw [List.getElem_append_right (by omega)]
      simpa [hl] using hx

/-- cells that are told element by element lie in a row -/
theorem fl_of_cells {α : Type} {f : α → List Value} {m : Nat} (hf : ∀ x, (f x).length = m) (hm : 0 < m) {w : World} {a : Addr} {xs : List α}
    (h : ∀ i (hi : i < xs.length) j u, (f xs[i])[j]? = some u → w.cell? (a.add (i * m + j)) = some u) : Fl f w 0 w.heap.size (some a) xs.length xs := by
  refine ⟨rfl, fun hne => ?_⟩
  have hl : 0 < xs.length := by
    rcases xs with _ | ⟨x, xs⟩
    · exact absurd rfl hne
    · simp
  have h00 : (f xs[0])[0]? = some ((f xs[0])[0]'(by rw [hf]; exact hm)) := List.getElem?_eq_getElem _
  have hc0 := h 0 hl 0 _ h00
  simp only [Nat.zero_mul, Nat.add_zero] at hc0
  have ha := addr_plain hc0
  have hb : a.block < w.heap.size := World.block_lt_of_cell? w (a.add 0) hc0
  refine ⟨a.block, a.off, by rw [← ha], Nat.zero_le _, hb, fun j u hu => ?_⟩
  have hj : j < (xs.flatMap f).length := (List.getElem?_eq_some_iff.1 hu).1
  rw [flat_len f m hf] at hj
  have hk : j / m < xs.length := Nat.div_lt_of_lt_mul (by rw [Nat.mul_comm]; exact hj)
  have e : j = j / m * m + j % m := by rw [Nat.mul_comm]; exact (Nat.div_add_mod j m).symm
  rw [e, flat_get f m hf xs (j / m) hk (j % m) (Nat.mod_lt _ hm)] at hu
  have := h (j / m) hk (j % m) u hu
  rw [← e] at this
  rw [← addr_lit this]; exact this

end Go.Proofs.Ytgbkjfhmbchiiaa

namespace Go.Proofs.Ytgbkjfhmbchiiaa
set_option linter.unusedVariables false
set_option linter.unusedSimpArgs false
open Go.ChangeShapes Go.WideShapes Go.Deep Go.RowKit

theorem fl_upd {w : World} {lo hi n k : Nat} {A : Option Addr} {xs : List Upd} (h : Fl cu w lo hi A n xs) (hk : k < n) :
    ∃ (b o : Nat) (hl : k < xs.length), A = some ⟨b, o, none⟩ ∧ lo ≤ b ∧ b < hi ∧ w.cell? ⟨b, o + k * 3, none⟩ = some (.int .i64 xs[k].ref) ∧ w.cell? ⟨b, o + k * 3 + 1, none⟩ = some (.int .i64 xs[k].old) ∧ w.cell? ⟨b, o + k * 3 + 2, none⟩ = some (.int .i64 xs[k].new_) := by
  obtain ⟨b, o, hl, rfl, g1, g2, hc⟩ := h.at_ cu_len (by omega) hk
  exact ⟨b, o, hl, rfl, g1, g2, hc 0 _ rfl, hc 1 _ rfl, hc 2 _ rfl⟩

/-- a slice of type []laws.Update that came in -/
def UpdIn (w : World) (A : Option Addr) (n c : Nat) (xs : List Upd) : Prop := Fl cu w 0 w.heap.size A n xs ∧ n ≤ c ∧ c ≤ maxLen ∧ ∀ o ∈ xs, o = o

set_option maxRecDepth 100000 in
theorem open_Upd {H : Type} {enc : TypeId × Value → H} {w : World} {v : Value} {d : DataW H} {pl : List MemPlace} (hv : Value.okWide Try.prog w .any 0 126 v)
    (h : DataW.Trod enc Try.prog w 0 (fun _ => true) true 126 v d pl) : ∃ A n c xs, v = .slice A n c ∧ UpdIn w A n c xs := by
  obtain ⟨A, n, c, rfl⟩ := okWide_slice Try.underlying126 hv
  obtain ⟨fuel, hf⟩ := h
  rcases open_slice_fields Try.underlying126 Try.underlying145 (by kernel_rfl) (by kernel_rfl) hf with ⟨hcs, _⟩ | ⟨a, l, c', m, D, Pl, hcs, _, hl, hm, hmm, _, hi⟩
  · simp [Value.cells] at hcs
    obtain ⟨rfl, rfl, rfl⟩ := hcs
    exact ⟨_, _, _, [], rfl, Fl.nil _ _ _ _ _, Nat.le_refl _, Nat.zero_le _, by simp⟩
  · simp [Value.cells] at hcs
    obtain ⟨rfl, rfl, rfl⟩ := hcs
    have key : ∀ i, i < n → ∃ o : Upd, (o = o) ∧ ∀ j u, (cu o)[j]? = some u → w.cell? (a.add (i * 3 + j)) = some u := by
      intro i hin
      obtain ⟨ys, q, _, _, _, hfl⟩ := hi i (by rw [hmm]; split <;> omega)
      obtain ⟨v0, y0, hc0, _, ht0⟩ := hfl 0 _ rfl
      obtain ⟨v1, y1, hc1, _, ht1⟩ := hfl 1 _ rfl
      obtain ⟨v2, y2, hc2, _, ht2⟩ := hfl 2 _ rfl
      obtain ⟨x0, e0, _, hx0⟩ := DataW.trod_int Try.underlying3 ht0
      obtain ⟨x1, e1, _, hx1⟩ := DataW.trod_int Try.underlying3 ht1
      obtain ⟨x2, e2, _, hx2⟩ := DataW.trod_int Try.underlying3 ht2
      simp at e0 e1 e2
      subst e0 e1 e2
      refine ⟨⟨x0, x1, x2⟩, ?_, ?_⟩
      · rfl
      · intro j u hu
        match j with
        | 0 => simp [cu] at hu; subst hu; exact hc0
        | 1 => simp [cu] at hu; subst hu; exact hc1
        | 2 => simp [cu] at hu; subst hu; exact hc2
        | j + 3 => simp [cu] at hu
    obtain ⟨xs, hxl, hx⟩ := list_of n key
    refine ⟨_, _, _, xs, rfl, ?_, hl, hm, fun o ho => ?_⟩
    · rw [← hxl]
      exact fl_of_cells cu_len (by omega) fun i hi j u hu => (hx i hi).2 j u hu
    · obtain ⟨i, hi, rfl⟩ := List.getElem_of_mem ho
      exact (hx i hi).1

set_option maxHeartbeats 400000 in
theorem szUpdateS_any (A : Option Addr) (n c : Nat) (xs : List Upd) (left : Int) (w : World) (hw : UpdIn w A n c xs) (h0 : 0 ≤ left) (h1 : left ≤ 1048576) :
    Calls Try.prog 104 #[.slice A n c, .int .i64 left] w fun e w' => ∃ r, -1 ≤ r ∧ r ≤ left ∧ (0 ≤ r → (n : Int) ≤ left) ∧ Below w.heap.size w w' ∧ e = .returned (.int .i64 r) := by
  obtain ⟨hfl, hnc, hcm, _⟩ := hw
  have hc63 : c ≤ 9223372036854775807 := by unfold maxLen at hcm; exact hcm
  clear hfl hcm
  go_enter Try.func104, Try.ntmps104
  go_wp2
  · go_ret
    exact ⟨_, by omega, by omega, by omega, Below.refl _ _, rfl⟩
  · go_ret
    exact ⟨_, by omega, by omega, by omega, Below.refl _ _, rfl⟩

set_option maxHeartbeats 400000 in
theorem toUpdate_any (o : Upd) (w : World) :
    Calls Try.prog 108 #[.agg #[.int .i64 o.ref, .int .i64 o.old, .int .i64 o.new_]] w fun e w' => Below w.heap.size w w' ∧ e = .returned (.agg #[.int .i64 o.ref, .int .i64 o.old, .int .i64 o.new_]) := by
  obtain ⟨ref, old, new_⟩ := o
  go_enter Try.func108, Try.ntmps108
  go_wp2
  exact bodyPost_ret (v := .agg #[.int .i64 ref, .int .i64 old, .int .i64 new_]) (by simp [results, Try.results108, go_sem]) rfl
    ⟨(((Below.refl _ _).alloc (Nat.le_refl _) _).alloc (by simp) _).alloc (by simp; omega) _, rfl⟩

theorem Try.infoUpdateX : (Try.prog.info? 88).map (fun i => (i.zero, i.size, i.bytes)) = some (some (.agg #[.int .i64 0, .int .i64 0, .int .i64 0]), 3, 24) := by kernel_rfl
/-- the zero cells of an element -/
def zcu : List Value := [.int .i64 0, .int .i64 0, .int .i64 0]

set_option maxHeartbeats 800000 in
theorem toUpdateS_any (A : Option Addr) (n c : Nat) (xs : List Upd) (w : World) (hn : n * 24 ≤ 140737488351232) (h : Fl cu w 0 w.heap.size A n xs) :
    Calls Try.prog 105 #[.slice A n c] w fun e w' => ∃ v, e = .returned v ∧ w'.ownsRow w.heap.size 88 3 v n (xs.flatMap cu) ∧ Below w.heap.size w w' := by
  have HI := Lib.hid h
  clear h
  obtain ⟨i0, hi0, hz0, hz1, hz2⟩ := info_parts Try.infoUpdateX
  have hmk := run_make_rowN (P := Try.prog) 47 88 i0 _ Try.underlying47 hi0 hz0 n (by rw [hz2]; omega) (by unfold maxLen; omega)
  rw [hz1] at hmk
  have hml := made_cells zcu (by simp [zcu]) n
  have hown : ∀ W : World, (W.alloc (.cells (madeCells #[.int .i64 0, .int .i64 0, .int .i64 0] (n * 3)) 88)).ownsRow W.heap.size 88 3 (.slice (some ⟨W.heap.size, 0, none⟩) n n) n (fillC cu zcu xs n 0) := fun W => by
    have := World.ownsRow_lit (e := 88) (size := 3) W (madeCells #[.int .i64 0, .int .i64 0, .int .i64 0] (n * 3)) n (Nat.le_refl W.heap.size) (by unfold maxLen; omega) (by simp [madeCells])
    rw [show (madeCells #[.int .i64 0, .int .i64 0, .int .i64 0] (n * 3)).toList = (List.replicate n zcu).flatten from hml] at this
    simpa [fillC] using this
  have HO := Lib.hid hown
  clear hown hml hi0 hz0 hz1 hz2
  go_enter Try.func105, Try.ntmps105
  go_wp2
  go_loopw [4] (fun i wr => ∃ k : Nat, k ≤ n ∧ i = .int .i64 k ∧ wr.ownsRow w.heap.size 88 3 (.slice (some ⟨w.heap.size, 0, none⟩) n n) n (fillC cu zcu xs n k) ∧ Below w.heap.size w wr ∧ w.heap.size < wr.heap.size) (fun i _ => n - (intOf i).toNat)
  case atStart => exact ⟨0, Nat.zero_le _, rfl, HO.out w, (Below.refl _ _).alloc (Nat.le_refl _) _, by simp⟩
  case round =>
    obtain ⟨k, hk, rfl, hown, hb, hsz⟩ := hrel
    have HOW := Lib.hid hown
    have HB := Lib.hid hb
    have hwsz := hb.size
    clear hown hb
    by_cases hlt : k < n
    · obtain ⟨b, o, hl, rfl, _, hbh, hc0, hc1, hc2⟩ := fl_upd (HI.out.below HB.out (Nat.le_refl _)) hlt
      go_wp2_with fail
      refine (toUpdate_any xs[k] _).mono ?_
      rintro e w2 ⟨hb2, rfl⟩
      have hown2 := own_below HOW.out hb2
      obtain ⟨u0, hg0, hf0⟩ := own_cells hown2 hlt 0 (by omega)
      obtain ⟨u1, hg1, hf1⟩ := own_cells hown2 hlt 1 (by omega)
      obtain ⟨u2, hg2, hf2⟩ := own_cells hown2 hlt 2 (by omega)
      rw [Nat.add_zero] at hg0 hf0
      have hst := stored3 hown2 (k * 3) (.int .i64 xs[k].ref) (.int .i64 xs[k].old) (.int .i64 xs[k].new_)
      rw [show [.int .i64 xs[k].ref, .int .i64 xs[k].old, .int .i64 xs[k].new_] = cu xs[k] from rfl, fillC_step cu zcu 3 cu_len rfl xs n k HI.out.1 hlt hl] at hst
      have HST := Lib.hid hst
      have HB2 : Hid (Below w.heap.size w w2) := HB.out.trans (hb2.mono hwsz)
      have hsz2 : w.heap.size < w2.heap.size := Nat.lt_of_lt_of_le hsz hb2.size
      clear hst hown2 hb2
      go_wp2_with fail
      go_roundw
      case rel => exact ⟨k + 1, by omega, by go_num, HST.out, ((HB2.out.setCell (Nat.le_refl _) _).setCell (Nat.le_refl _) _).setCell (Nat.le_refl _) _, by simpa using hsz2⟩
      case measure => simp [intOf]; omega
    · have hkn : k = n := by omega
      subst hkn
      go_wp2_with fail
      go_ret
      exact ⟨_, rfl, by rw [← fillC_all cu zcu xs k HI.out.1]; exact HOW.out, HB.out⟩

set_option maxHeartbeats 400000 in
theorem eqUpdate_any (o : Upd) (w : World) :
    Calls Try.prog 109 #[.agg #[.int .i64 o.ref, .int .i64 o.old, .int .i64 o.new_], .agg #[.int .i64 o.ref, .int .i64 o.old, .int .i64 o.new_]] w fun e w' => Below w.heap.size w w' ∧ e = .returned (.bool true) := by
  obtain ⟨ref, old, new_⟩ := o
  have h0 : (!(ref == ref)) = false := by simp
  have h1 : (!(old == old)) = false := by simp
  have h2 : (!(new_ == new_)) = false := by simp
  go_enter Try.func109, Try.ntmps109
  go_wp2
  go_ret
  exact ⟨((Below.refl _ _).alloc (Nat.le_refl _) _).alloc (by simp) _, rfl⟩

set_option maxRecDepth 100000 in
set_option maxHeartbeats 800000 in
theorem eqUpdateS_any (A A' : Option Addr) (n c c' : Nat) (xs : List Upd) (w : World) (lo hi lo' hi' : Nat) (hn : n ≤ 9223372036854775807) (hh : hi ≤ w.heap.size) (hh' : hi' ≤ w.heap.size) (h : Fl cu w lo hi A n xs) (h' : Fl cu w lo' hi' A' n xs) :
    Calls Try.prog 106 #[.slice A n c, .slice A' n c'] w fun e w' => e = .returned (.bool true) ∧ Below w.heap.size w w' := by
  have HI := Lib.hid h
  have HJ := Lib.hid h'
  clear h h'
  go_enter Try.func106, Try.ntmps106
  go_wp2
  go_loopw [5] (fun i wr => ∃ k : Nat, k ≤ n ∧ i = .int .i64 k ∧ Below w.heap.size w wr) (fun i _ => n - (intOf i).toNat)
  case atStart => exact ⟨0, Nat.zero_le _, rfl, Below.refl _ _⟩
  case round =>
    obtain ⟨k, hk, rfl, hb⟩ := hrel
    have HB := Lib.hid hb
    have hwsz := hb.size
    clear hb
    by_cases hlt : k < n
    · obtain ⟨b, o, hl, rfl, _, hbh, hc0, hc1, hc2⟩ := fl_upd (HI.out.below HB.out hh) hlt
      obtain ⟨b', o', hl', rfl, _, hbh', hc0', hc1', hc2'⟩ := fl_upd (HJ.out.below HB.out hh') hlt
      go_wp2_with fail
      go_still_tail 8, (by kernel_rfl)
      change wpList _ _ _ _ _ wr.drew
      go_wp2_with fail
      refine (eqUpdate_any xs[k] _).mono ?_
      rintro e w2 ⟨hb2, rfl⟩
      have HB2 : Hid (Below w.heap.size w w2) := HB.out.drew.trans (hb2.mono hwsz)
      clear hb2
      go_wp2_with fail
      go_roundw
      case rel => exact ⟨k + 1, by omega, by go_num, HB2.out⟩
      case measure => simp [intOf]; omega
    · have hkn : k = n := by omega
      subst hkn
      go_wp2_with fail
      go_ret
      exact ⟨rfl, HB.out⟩

end Go.Proofs.Ytgbkjfhmbchiiaa
