/-
  How arguments with depth are opened: a slice of numbers, a slice of structs with slices in them, as data. No condition.
-/
import Derived.Test.YtgpjcmplnigmcaaM4
import Derived.Test.YtgpjcmplnigmcaaOpenS
namespace Go.Proofs.Ytgpjcmplnigmcaa
set_option linter.unusedVariables false
set_option linter.unusedSimpArgs false
open Go.ChangeShapes Go.WideShapes Go.Deep Go.RowKit

/-- fields that are told element by element -/
theorem rd_of_cells {α : Type} {f : α → List D} {m n c : Nat} (hf : ∀ x, (f x).length = m) (hm : 0 < m) {w : World} {a : Addr} {xs : List α} (hl : xs.length = n) (hn : n ≤ c) (hc : c ≤ 9223372036854775807)
    (h : ∀ i (hi : i < xs.length) j d, (f xs[i])[j]? = some d → ∃ u, w.cell? (a.add (i * m + j)) = some u ∧ D.rd w 0 w.heap.size d u) : D.rd w 0 w.heap.size (.arr m n (xs.flatMap f)) (.slice (some a) n c) := by
  subst hl
  have hfl := flat_lenG f m hf xs
  have key : ∀ q d, (xs.flatMap f)[q]? = some d → ∃ u, w.cell? (a.add q) = some u ∧ D.rd w 0 w.heap.size d u := by
    intro q d hd
    have hq : q < (xs.flatMap f).length := (List.getElem?_eq_some_iff.1 hd).1
    rw [hfl] at hq
    have hk : q / m < xs.length := Nat.div_lt_of_lt_mul (by rw [Nat.mul_comm]; exact hq)
    have e : q = q / m * m + q % m := by rw [Nat.mul_comm]; exact (Nat.div_add_mod q m).symm
    rw [e, flat_getG f m hf xs (q / m) hk (q % m) (Nat.mod_lt _ hm)] at hd
    have := h (q / m) hk (q % m) d hd
    rwa [← e] at this
  unfold D.rd
  refine ⟨some a, c, (List.range (xs.length * m)).map (fun q => (w.cell? (a.add q)).getD (.bool false)), rfl, hn, hc, hfl, fun hne => ?_, D.rdL.mk (by simp [hfl]) fun q d hd => ?_⟩
  · have h0 : 0 < xs.length * m := by
      rcases Nat.eq_zero_or_pos (xs.length * m) with h0 | h0
      · rw [h0] at hne; exact absurd rfl hne
      · exact h0
    obtain ⟨d, hd⟩ : ∃ d, (xs.flatMap f)[0]? = some d := ⟨_, List.getElem?_eq_getElem (by rw [hfl]; exact h0)⟩
    obtain ⟨u, hu, -⟩ := key 0 d hd
    have ha := addr_plain hu
    have hb : a.block < w.heap.size := World.block_lt_of_cell? w (a.add 0) hu
    refine ⟨a.block, a.off, by rw [← ha], Nat.zero_le _, hb, fun j u hu => ?_⟩
    have hj : j < xs.length * m := by
      have := (List.getElem?_eq_some_iff.1 hu).1
      simpa using this
    obtain ⟨d, hd⟩ : ∃ d, (xs.flatMap f)[j]? = some d := ⟨_, List.getElem?_eq_getElem (by rw [hfl]; exact hj)⟩
    obtain ⟨u', hu', -⟩ := key j d hd
    rw [List.getElem?_map, List.getElem?_range hj] at hu
    simp only [Option.map_some, hu', Option.getD_some, Option.some.injEq] at hu
    subst hu
    rw [← addr_lit hu']; exact hu'
  · obtain ⟨u, hu, hr⟩ := key q d hd
    have hq : q < xs.length * m := by
      have := (List.getElem?_eq_some_iff.1 hd).1
      rwa [hfl] at this
    exact ⟨u, by rw [List.getElem?_map, List.getElem?_range hq]; simp [hu], hr⟩
theorem rd_nil_arr (w : World) (lo hi m c : Nat) (A : Option Addr) (hc : c ≤ 9223372036854775807) : D.rd w lo hi (.arr m 0 []) (.slice A 0 c) := by
  unfold D.rd
  refine ⟨A, c, [], rfl, Nat.zero_le _, hc, by simp, Rd.nil _ _ _ _, ?_⟩
  unfold D.rdL; rfl

theorem openc_ints {H : Type} {enc : TypeId × Value → H} {w : World} {fuel : Nat} {cs : List Value} {x : DataW H × List MemPlace} (h : DataW.trod enc Try.prog w 0 (fun _ => true) true fuel 42 cs = some x) :
    ∃ A n c xs, cs = [.slice A n c] ∧ D.rd w 0 w.heap.size (intsD xs) (.slice A n c) := by
  rcases open_ints Try.underlying42 Try.underlying3 (by kernel_rfl) h with ⟨hcs, _⟩ | ⟨a, l, c, zs, hcs, _, hl, hm, hz, _, hcell, _⟩
  · exact ⟨none, 0, 0, [], hcs, rd_nil_arr _ _ _ _ _ _ (by omega)⟩
  · refine ⟨some a, l, c, zs.take l, hcs, ?_⟩
    have hz' : zs.length = c := by rw [hz]; simp
    have hlen : (zs.take l).length = l := by rw [List.length_take]; omega
    have e : intsD (zs.take l) = .arr 1 l ((zs.take l).flatMap fun x => [D.int x]) := by
      unfold intsD
      rw [hlen]
      congr 1
      induction (zs.take l) with
      | nil => rfl
      | cons y ys ih => simp [ih]
    rw [e]
    refine rd_of_cells (m := 1) (fun _ => rfl) (by omega) hlen hl (by unfold maxLen at hm; exact hm) fun i hi j d hd => ?_
    rcases j with _ | j
    · simp at hd
      subst hd
      have hi2 : i < zs.length := by rw [List.length_take] at hi; omega
      have := hcell i hi2
      rw [List.getD_eq_getElem?_getD, List.getElem?_eq_getElem hi2] at this
      refine ⟨_, by simpa using this, ?_⟩
      unfold D.rd
      simp
    · simp at hd

end Go.Proofs.Ytgpjcmplnigmcaa
