/-
  How arguments with depth are opened: a slice of numbers, a slice of structs with slices in them, as data. No condition.
  Data whose numbers are all int64s; how arguments with depth are opened so. Plain words; no condition.
  How an argument of type []laws.Update is opened, as data whose numbers are int64s. No condition.
  How an argument of type []laws.Part is opened, as data whose numbers are int64s. No condition.
-/
import Derived.Test.YtgbkjfhmbchiiaaM3
import Derived.Test.YtgbkjfhmbchiiaaM5
import Derived.Lib.SmallJoins
import Derived.Test.YtgbkjfhmbchiiaaM4
namespace Go.Proofs.Ytgbkjfhmbchiiaa
set_option linter.unusedVariables false
set_option linter.unusedSimpArgs false
open Go.ChangeShapes Go.WideShapes Go.Deep Go.RowKit

/-- fields that are told element by element -/
theorem rd_of_cells {α : Type} {f : α → List D} {m n c : Nat} (hf : ∀ x, (f x).length = m) (hm : 0 < m) {w : World} {a : Addr} {xs : List α} (hl : xs.length = n) (hn : n ≤ c) (hc : c ≤ 9223372036854775807)
    (h : ∀ i (hi : i < xs.length) j d, (f xs[i])[j]? = some d → ∃ u, w.cell? (a.add (i * m + j)) = some u ∧ D.rd w 0 w.heap.size d u) : D.rd w 0 w.heap.size (.arr m n (xs.flatMap f)) (.slice (some a) n c) := by
  subst hl
  have hfl := flat_lenG f m hf xs
  have key : ∀ q d, (xs.flatMap f)[q]? = some d → ∃ u, w.cell? (a.add q) = some u ∧ D.rd w 0 w.heap.size d u := by
    intro q d hd
    have hq : q < (xs.flatMap f).length := (List.getElem?_eq_some_iff.1 hd).1
    rw [hfl] at hq
    have hk : q / m < xs.length := Nat.div_lt_of_lt_mul (by rw [Nat.mul_comm]; exact hq)
    have e : q = q / m * m + q % m := by rw [Nat.mul_comm]; exact (Nat.div_add_mod q m).symm
    rw [e, flat_getG f m hf xs (q / m) hk (q % m) (Nat.mod_lt _ hm)] at hd
    have := h (q / m) hk (q % m) d hd
    rwa [← e] at this
  unfold D.rd
  refine ⟨some a, c, (List.range (xs.length * m)).map (fun q => (w.cell? (a.add q)).getD (.bool false)), rfl, hn, hc, hfl, fun hne => ?_, D.rdL.mk (by simp [hfl]) fun q d hd => ?_⟩
  · have h0 : 0 < xs.length * m := by
      rcases Nat.eq_zero_or_pos (xs.length * m) with h0 | h0
      · rw [h0] at hne; exact absurd rfl hne
      · exact h0
    obtain ⟨d, hd⟩ : ∃ d, (xs.flatMap f)[0]? = some d := ⟨_, List.getElem?_eq_getElem (by rw [hfl]; exact h0)⟩
    obtain ⟨u, hu, -⟩ := key 0 d hd
    have ha := addr_plain hu
    have hb : a.block < w.heap.size := World.block_lt_of_cell? w (a.add 0) hu
    refine ⟨a.block, a.off, by rw [← ha], Nat.zero_le _, hb, fun j u hu => ?_⟩
    have hj : j < xs.length * m := by
      have := (List.getElem?_eq_some_iff.1 hu).1
      simpa using this
    obtain ⟨d, hd⟩ : ∃ d, (xs.flatMap f)[j]? = some d := ⟨_, List.getElem?_eq_getElem (by rw [hfl]; exact hj)⟩
    obtain ⟨u', hu', -⟩ := key j d hd
    rw [List.getElem?_map, List.getElem?_range hj] at hu
    simp only [Option.map_some, hu', Option.getD_some, Option.some.injEq] at hu
    subst hu
    rw [← addr_lit hu']; exact hu'
  · obtain ⟨u, hu, hr⟩ := key q d hd
    have hq : q < xs.length * m := by
      have := (List.getElem?_eq_some_iff.1 hd).1
      rwa [hfl] at this
    exact ⟨u, by rw [List.getElem?_map, List.getElem?_range hq]; simp [hu], hr⟩
theorem rd_nil_arr (w : World) (lo hi m c : Nat) (A : Option Addr) (hc : c ≤ 9223372036854775807) : D.rd w lo hi (.arr m 0 []) (.slice A 0 c) := by
  unfold D.rd
  refine ⟨A, c, [], rfl, Nat.zero_le _, hc, by simp, Rd.nil _ _ _ _, ?_⟩
  unfold D.rdL; rfl

theorem openc_ints {H : Type} {enc : TypeId × Value → H} {w : World} {fuel : Nat} {cs : List Value} {x : DataW H × List MemPlace} (h : DataW.trod enc Try.prog w 0 (fun _ => true) true fuel 24 cs = some x) :
    ∃ A n c xs, cs = [.slice A n c] ∧ D.rd w 0 w.heap.size (intsD xs) (.slice A n c) := by
  rcases open_ints Try.underlying24 Try.underlying3 (by kernel_rfl) h with ⟨hcs, _⟩ | ⟨a, l, c, zs, hcs, _, hl, hm, hz, _, hcell, _⟩
  · exact ⟨none, 0, 0, [], hcs, rd_nil_arr _ _ _ _ _ _ (by omega)⟩
  · refine ⟨some a, l, c, zs.take l, hcs, ?_⟩
    have hz' : zs.length = c := by rw [hz]; simp
    have hlen : (zs.take l).length = l := by rw [List.length_take]; omega
    have e : intsD (zs.take l) = .arr 1 l ((zs.take l).flatMap fun x => [D.int x]) := by
      unfold intsD
      rw [hlen]
      congr 1
      induction (zs.take l) with
      | nil => rfl
      | cons y ys ih => simp [ih]
    rw [e]
    refine rd_of_cells (m := 1) (fun _ => rfl) (by omega) hlen hl (by unfold maxLen at hm; exact hm) fun i hi j d hd => ?_
    rcases j with _ | j
    · simp at hd
      subst hd
      have hi2 : i < zs.length := by rw [List.length_take] at hi; omega
      have := hcell i hi2
      rw [List.getD_eq_getElem?_getD, List.getElem?_eq_getElem hi2] at this
      refine ⟨_, by simpa using this, ?_⟩
      unfold D.rd
      simp
    · simp at hd

end Go.Proofs.Ytgbkjfhmbchiiaa

namespace Go.Proofs.Ytgbkjfhmbchiiaa
set_option linter.unusedVariables false
set_option linter.unusedSimpArgs false
open Go.ChangeShapes Go.WideShapes Go.Deep Go.RowKit

mutual
/-- all numbers are int64s -/
def D.wf : D → Prop
  | .int n => (Lit.int .i64 n).wf = true
  | .bool _ => True
  | .str _ => True
  | .arr _ _ es => D.wfL es
def D.wfL : List D → Prop
  | [] => True
  | d :: ds => D.wf d ∧ D.wfL ds
end
theorem wf_int {n : Int} : D.wf (.int n) ↔ (Lit.int .i64 n).wf = true := by unfold D.wf; rfl
theorem wf_str {s : ByteArray} : D.wf (.str s) := by unfold D.wf; trivial
theorem wf_arr {m n : Nat} {es : List D} : D.wf (.arr m n es) ↔ D.wfL es := by rw [D.wf]
theorem wfL_nil : D.wfL [] := by unfold D.wfL; trivial
theorem wfL_cons {d : D} {ds : List D} : D.wfL (d :: ds) ↔ D.wf d ∧ D.wfL ds := by rw [D.wfL]
theorem wfL_app {a b : List D} : D.wfL (a ++ b) ↔ D.wfL a ∧ D.wfL b := by
  induction a with
  | nil => simp [wfL_nil]
  | cons d a ih => rw [List.cons_append, wfL_cons, wfL_cons, ih, and_assoc]
theorem wfL_flat {α : Type} {f : α → List D} {xs : List α} : D.wfL (xs.flatMap f) ↔ ∀ x ∈ xs, D.wfL (f x) := by
  induction xs with
  | nil => simp [wfL_nil]
  | cons x xs ih => rw [List.flatMap_cons, wfL_app, ih]; simp
theorem wf_ints {xs : List Int} : D.wf (intsD xs) ↔ ∀ x ∈ xs, (Lit.int .i64 x).wf = true := by
  unfold intsD
  rw [wf_arr]
  induction xs with
  | nil => simp [wfL_nil]
  | cons x xs ih => rw [List.map_cons, wfL_cons, ih, wf_int]; simp
theorem wf_mem {α : Type} {f : α → List D} {xs : List α} (h : ∀ i (hi : i < xs.length), D.wfL (f xs[i])) : D.wfL (xs.flatMap f) := wfL_flat.2 fun x hx => by
  obtain ⟨i, hi, rfl⟩ := List.getElem_of_mem hx
  exact h i hi

theorem openw_ints {H : Type} {enc : TypeId × Value → H} {w : World} {fuel : Nat} {cs : List Value} {x : DataW H × List MemPlace} (h : DataW.trod enc Try.prog w 0 (fun _ => true) true fuel 24 cs = some x) :
    ∃ A n c xs, cs = [.slice A n c] ∧ D.rd w 0 w.heap.size (intsD xs) (.slice A n c) ∧ D.wf (intsD xs) := by
  obtain ⟨A, n, c, xs, h1, h2⟩ := openc_ints h
  rcases open_ints Try.underlying24 Try.underlying3 (by kernel_rfl) h with ⟨hcs, _⟩ | ⟨a, l, c', zs, hcs, _, hl, hm, hz, _, hcell, hwz⟩
  · refine ⟨A, n, c, xs, h1, h2, wf_ints.2 ?_⟩
    rw [h1] at hcs
    injection hcs with e _
    injection e with _ e2 _
    have := h2.ints.1
    rw [e2] at this
    rw [List.eq_nil_of_length_eq_zero this]
    intro x hx; cases hx
  · refine ⟨A, n, c, xs, h1, h2, wf_ints.2 fun x hx => ?_⟩
    rw [h1] at hcs
    injection hcs with e _
    injection e with e1 e2 e3
    subst e1 e2 e3
    have hz' : zs.length = c := by rw [hz]; simp
    obtain ⟨i, hi, rfl⟩ := List.getElem_of_mem hx
    have hin : i < n := by have := h2.ints.1; omega
    obtain ⟨b, o, hl2, e4, _, _, hc⟩ := h2.ints.int hin
    injection e4 with e4
    subst e4
    have hc2 := hcell i (by omega)
    rw [addr_lit hc2] at hc2
    rw [hc2, List.getD_eq_getElem?_getD, List.getElem?_eq_getElem (by omega)] at hc
    injection hc with hc
    injection hc with _ hc
    rw [← hc]
    exact hwz _ (List.getElem_mem (by omega))

end Go.Proofs.Ytgbkjfhmbchiiaa

namespace Go.Proofs.Ytgbkjfhmbchiiaa
set_option linter.unusedVariables false
set_option linter.unusedSimpArgs false
open Go.ChangeShapes Go.WideShapes Go.Deep Go.RowKit

set_option maxRecDepth 100000 in
theorem openw_Update {H : Type} {enc : TypeId × Value → H} {w : World} {fuel : Nat} {cs : List Value} {x : DataW H × List MemPlace} (h : DataW.trod enc Try.prog w 0 (fun _ => true) true fuel 126 cs = some x) :
    ∃ A n c xs, cs = [.slice A n c] ∧ D.rd w 0 w.heap.size (dUpdates xs) (.slice A n c) ∧ D.wf (dUpdates xs) := by
  rcases open_slice_fields Try.underlying126 Try.underlying145 (by kernel_rfl) (by kernel_rfl) h with ⟨hcs, _⟩ | ⟨a, n, c, mm, DD, Pl, hcs, _, hl, hm, hmm, _, hi⟩
  · exact ⟨none, 0, 0, [], hcs, rd_nil_arr _ _ _ _ _ _ (by omega), by unfold dUpdates; rw [wf_arr]; exact wfL_nil⟩
  · have key : ∀ i, i < n → ∃ x : Upd, (∀ j d, (fUpdate x)[j]? = some d → ∃ u, w.cell? (a.add (i * 3 + j)) = some u ∧ D.rd w 0 w.heap.size d u) ∧ D.wfL (fUpdate x) := by
      intro i hin
      obtain ⟨ys, q, _, _, _, hfl⟩ := hi i (by rw [hmm]; split <;> omega)
      obtain ⟨v0, y0, hc0, _, ht0⟩ := hfl 0 _ rfl
      obtain ⟨x0, e0, _, hw0⟩ := DataW.trod_int Try.underlying3 ht0
      simp at e0
      subst e0
      obtain ⟨v1, y1, hc1, _, ht1⟩ := hfl 1 _ rfl
      obtain ⟨x1, e1, _, hw1⟩ := DataW.trod_int Try.underlying3 ht1
      simp at e1
      subst e1
      obtain ⟨v2, y2, hc2, _, ht2⟩ := hfl 2 _ rfl
      obtain ⟨x2, e2, _, hw2⟩ := DataW.trod_int Try.underlying3 ht2
      simp at e2
      subst e2
      refine ⟨⟨x0, x1, x2⟩, fun j d hd => ?_, ?_⟩
      · match j with
        | 0 =>
          simp [fUpdate] at hd
          subst hd
          refine ⟨_, hc0, ?_⟩
          unfold D.rd; rfl
        | 1 =>
          simp [fUpdate] at hd
          subst hd
          refine ⟨_, hc1, ?_⟩
          unfold D.rd; rfl
        | 2 =>
          simp [fUpdate] at hd
          subst hd
          refine ⟨_, hc2, ?_⟩
          unfold D.rd; rfl
        | j + 3 => simp [fUpdate] at hd
      · unfold fUpdate; simp only [wfL_cons, and_true]; exact ⟨wf_int.2 (by first | exact hw0 | simpa using hw0), wf_int.2 (by first | exact hw1 | simpa using hw1), wf_int.2 (by first | exact hw2 | simpa using hw2), wfL_nil⟩
    obtain ⟨xs, hxl, hx⟩ := list_of n key
    refine ⟨some a, n, c, xs, hcs, ?_, by unfold dUpdates; rw [wf_arr]; exact wf_mem fun i hi => (hx i hi).2⟩
    unfold dUpdates
    have h1 := rd_of_cells fUpdate_len (by omega) hxl hl (by unfold maxLen at hm; exact hm) (fun i hi => (hx i hi).1)
    rw [← hxl] at h1 ⊢
    exact h1

set_option maxRecDepth 100000 in
theorem openv_Update {H : Type} {enc : TypeId × Value → H} {w : World} {v : Value} {d : DataW H} {pl : List MemPlace} (hv : Value.okWide Try.prog w .any 0 126 v)
    (h : DataW.Trod enc Try.prog w 0 (fun _ => true) true 126 v d pl) : ∃ A n c xs, v = .slice A n c ∧ D.rd w 0 w.heap.size (dUpdates xs) (.slice A n c) ∧ D.wf (dUpdates xs) := by
  obtain ⟨A, n, c, rfl⟩ := okWide_slice Try.underlying126 hv
  obtain ⟨fuel, hf⟩ := h
  obtain ⟨A2, n2, c2, xs, e, hr, hw⟩ := openw_Update hf
  simp [Value.cells] at e
  obtain ⟨rfl, rfl, rfl⟩ := e
  exact ⟨_, _, _, xs, rfl, hr, hw⟩

end Go.Proofs.Ytgbkjfhmbchiiaa

namespace Go.Proofs.Ytgbkjfhmbchiiaa
set_option linter.unusedVariables false
set_option linter.unusedSimpArgs false
open Go.ChangeShapes Go.WideShapes Go.Deep Go.RowKit

set_option maxRecDepth 100000 in
theorem openw_Part {H : Type} {enc : TypeId × Value → H} {w : World} {fuel : Nat} {cs : List Value} {x : DataW H × List MemPlace} (h : DataW.trod enc Try.prog w 0 (fun _ => true) true fuel 73 cs = some x) :
    ∃ A n c xs, cs = [.slice A n c] ∧ D.rd w 0 w.heap.size (dParts xs) (.slice A n c) ∧ D.wf (dParts xs) := by
  rcases open_slice_fields Try.underlying73 Try.underlying128 (by kernel_rfl) (by kernel_rfl) h with ⟨hcs, _⟩ | ⟨a, n, c, mm, DD, Pl, hcs, _, hl, hm, hmm, _, hi⟩
  · exact ⟨none, 0, 0, [], hcs, rd_nil_arr _ _ _ _ _ _ (by omega), by unfold dParts; rw [wf_arr]; exact wfL_nil⟩
  · have key : ∀ i, i < n → ∃ x : PartD, (∀ j d, (fPart x)[j]? = some d → ∃ u, w.cell? (a.add (i * 2 + j)) = some u ∧ D.rd w 0 w.heap.size d u) ∧ D.wfL (fPart x) := by
      intro i hin
      obtain ⟨ys, q, _, _, _, hfl⟩ := hi i (by rw [hmm]; split <;> omega)
      obtain ⟨v0, y0, hc0, _, ht0⟩ := hfl 0 _ rfl
      obtain ⟨x0, e0, _, hw0⟩ := DataW.trod_int Try.underlying3 ht0
      simp at e0
      subst e0
      obtain ⟨v1, y1, hc1, _, ht1⟩ := hfl 1 _ rfl
      obtain ⟨A1, n1, c1, x1, e1, hr1, hw1⟩ := openw_Update ht1
      simp at e1
      subst e1
      refine ⟨⟨x0, x1⟩, fun j d hd => ?_, ?_⟩
      · match j with
        | 0 =>
          simp [fPart] at hd
          subst hd
          refine ⟨_, hc0, ?_⟩
          unfold D.rd; rfl
        | 1 =>
          simp [fPart] at hd
          subst hd
          refine ⟨_, hc1, ?_⟩
          exact hr1
        | j + 2 => simp [fPart] at hd
      · unfold fPart; simp only [wfL_cons, and_true]; exact ⟨wf_int.2 (by first | exact hw0 | simpa using hw0), hw1, wfL_nil⟩
    obtain ⟨xs, hxl, hx⟩ := list_of n key
    refine ⟨some a, n, c, xs, hcs, ?_, by unfold dParts; rw [wf_arr]; exact wf_mem fun i hi => (hx i hi).2⟩
    unfold dParts
    have h1 := rd_of_cells fPart_len (by omega) hxl hl (by unfold maxLen at hm; exact hm) (fun i hi => (hx i hi).1)
    rw [← hxl] at h1 ⊢
    exact h1

set_option maxRecDepth 100000 in
theorem openv_Part {H : Type} {enc : TypeId × Value → H} {w : World} {v : Value} {d : DataW H} {pl : List MemPlace} (hv : Value.okWide Try.prog w .any 0 73 v)
    (h : DataW.Trod enc Try.prog w 0 (fun _ => true) true 73 v d pl) : ∃ A n c xs, v = .slice A n c ∧ D.rd w 0 w.heap.size (dParts xs) (.slice A n c) ∧ D.wf (dParts xs) := by
  obtain ⟨A, n, c, rfl⟩ := okWide_slice Try.underlying73 hv
  obtain ⟨fuel, hf⟩ := h
  obtain ⟨A2, n2, c2, xs, e, hr, hw⟩ := openw_Part hf
  simp [Value.cells] at e
  obtain ⟨rfl, rfl, rfl⟩ := e
  exact ⟨_, _, _, xs, rfl, hr, hw⟩

end Go.Proofs.Ytgbkjfhmbchiiaa
