/-
  Plain words for a slice that is made and then filled, element by element; make's own equation; the law's end. No condition.
-/
import Derived.Test.YtgbkjfhmbchiiaaBase
import Derived.Laws.MakeOwn
import Derived.Laws.OwnMore
import Derived.Deep.AppendLies
namespace Go.Proofs.Ytgbkjfhmbchiiaa
set_option linter.unusedVariables false
set_option linter.unusedSimpArgs false
open Go.RowKit

/-- the cells of the first k elements, and n - k zero elements behind them -/
def fillC {α : Type} (f : α → List Value) (z : List Value) (xs : List α) (n k : Nat) : List Value := (xs.take k).flatMap f ++ (List.replicate (n - k) z).flatten

def setMany : List Value → Nat → List Value → List Value
  | l, _, [] => l
  | l, p, v :: vs => setMany (l.set p v) (p + 1) vs

theorem setMany_mid (vs : List Value) : ∀ (a zs r : List Value), zs.length = vs.length → setMany (a ++ zs ++ r) a.length vs = a ++ vs ++ r := by
  induction vs with
  | nil => intro a zs r h; have : zs = [] := List.eq_nil_of_length_eq_zero h; subst this; simp [setMany]
  | cons v vs ih =>
    intro a zs r h
    rcases zs with _ | ⟨z, zs⟩
    · simp at h
    · have e : (a ++ z :: zs ++ r).set a.length v = (a ++ [v]) ++ zs ++ r := by
        simp [List.set_append_right]
      have := ih (a ++ [v]) zs r (by simpa using h)
      rw [setMany, e]
      simp only [List.length_append, List.length_singleton] at this
      rw [this]; simp

theorem fillC_step {α : Type} (f : α → List Value) (z : List Value) (m : Nat) (hf : ∀ x, (f x).length = m) (hz : z.length = m) (xs : List α) (n k : Nat) (hl : xs.length = n) (hk : k < n) (hk' : k < xs.length) :
    setMany (fillC f z xs n k) (k * m) (f xs[k]) = fillC f z xs n (k + 1) := by
  have e1 : ((xs.take k).flatMap f).length = k * m := by rw [flat_len f m hf, List.length_take]; rw [Nat.min_eq_left (by omega)]
  have e2 : List.replicate (n - k) z = z :: List.replicate (n - (k + 1)) z := by
    rw [← List.replicate_succ]; congr 1; omega
  unfold fillC
  rw [e2, List.flatten_cons, ← List.append_assoc, ← e1, setMany_mid _ _ _ _ (by rw [hz, hf]), List.take_succ_eq_append_getElem hk', List.flatMap_append]
  simp

theorem fillC_len {α : Type} (f : α → List Value) (z : List Value) (m : Nat) (hf : ∀ x, (f x).length = m) (hz : z.length = m) (xs : List α) (n k : Nat) (hl : xs.length = n) (hk : k ≤ n) : (fillC f z xs n k).length = n * m := by
  unfold fillC
  rw [List.length_append, flat_len f m hf, List.length_take, Nat.min_eq_left (by omega), List.length_flatten, List.map_replicate, List.sum_replicate_nat, hz, ← Nat.add_mul]
  congr 1; omega

theorem fillC_all {α : Type} (f : α → List Value) (z : List Value) (xs : List α) (n : Nat) (hl : xs.length = n) : fillC f z xs n n = xs.flatMap f := by
  unfold fillC
  rw [List.take_of_length_le (by omega), Nat.sub_self]; simp

theorem made_cells (z : List Value) (hz : 0 < z.length) (n : Nat) : (madeCells z.toArray (n * z.length)).toList = (List.replicate n z).flatten := by
  have hfl : ∀ (n i : Nat), i < n * z.length → (List.replicate n z).flatten[i]? = z[i % z.length]? := by
    intro n
    induction n with
    | zero => intro i h; omega
    | succ n ih =>
      intro i h
      rw [List.replicate_succ, List.flatten_cons]
      by_cases hi : i < z.length
      · rw [List.getElem?_append_left hi, Nat.mod_eq_of_lt hi]
      · rw [List.getElem?_append_right (by omega), ih (i - z.length) (by rw [Nat.add_mul] at h; omega), ← Nat.mod_eq_sub_mod (by omega)]
  refine List.ext_getElem? fun i => ?_
  unfold madeCells
  rw [Array.getElem?_toList, Array.getElem?_map]
  by_cases h : i < n * z.length
  · rw [hfl n i h]
    have hm : i % z.length < z.length := Nat.mod_lt _ hz
    simp [h, hm]
  · rw [List.getElem?_eq_none (l := (List.replicate n z).flatten) (by rw [List.length_flatten, List.map_replicate, List.sum_replicate_nat]; omega)]
    simp [h]

theorem stored3 {w : World} {base n g cap : Nat} {e : TypeId} {cs : List Value} {size : Nat} (h : w.ownsRow base e size (.slice (some ⟨g, 0, none⟩) n cap) n cs) (p : Nat) (a b c : Value) :
    (((w.setCell ⟨g, p, none⟩ a).setCell ⟨g, p + 1, none⟩ b).setCell ⟨g, p + 2, none⟩ c).ownsRow base e size (.slice (some ⟨g, 0, none⟩) n cap) n (setMany cs p [a, b, c]) :=
  (((h.stored p a).1.stored (p + 1) b).1.stored (p + 2) c).1
theorem stored4 {w : World} {base n g cap : Nat} {e : TypeId} {cs : List Value} {size : Nat} (h : w.ownsRow base e size (.slice (some ⟨g, 0, none⟩) n cap) n cs) (p : Nat) (a b c d : Value) :
    ((((w.setCell ⟨g, p, none⟩ a).setCell ⟨g, p + 1, none⟩ b).setCell ⟨g, p + 2, none⟩ c).setCell ⟨g, p + 3, none⟩ d).ownsRow base e size (.slice (some ⟨g, 0, none⟩) n cap) n (setMany cs p [a, b, c, d]) :=
  ((((h.stored p a).1.stored (p + 1) b).1.stored (p + 2) c).1.stored (p + 3) d).1
theorem grown_none {w w' : World} (h : Below w.heap.size w w') (row : Option Nat) : w.grownBy w' row := ⟨h.os, h.tape, h.output, h.size, fun i hi _ => h.block i hi⟩
theorem own_below {w w' : World} {base size n : Nat} {e : TypeId} {v : Value} {cs : List Value} (h : w.ownsRow base e size v n cs) (hb : Below w.heap.size w w') : w'.ownsRow base e size v n cs := by
  refine h.kept (grown_none hb (some w.heap.size)) ?_
  rcases hv : v.ownBlock with _ | k
  · exact .inl rfl
  · refine .inr (fun e => ?_)
    injection e with e
    have := (h.lt k hv).2; omega

/-- the cells of one element of a row of the call's own -/
theorem own_cells {w : World} {base size n g k : Nat} {e : TypeId} {cs : List Value} {cap : Nat} (h : w.ownsRow base e size (.slice (some ⟨g, 0, none⟩) n cap) n cs) (hk : k < n) (j : Nat) (hj : j < size) :
    ∃ u, w.cell? ⟨g, k * size + j, none⟩ = some u ∧ w.frozen? ⟨g, k * size + j, none⟩ = false := by
  have hlt : k * size + j < n * size := by
    have : (k + 1) * size ≤ n * size := Nat.mul_le_mul_right _ hk
    rw [Nat.add_mul] at this; omega
  refine ⟨cs[k * size + j]'(by rw [h.1]; exact hlt), ?_, h.frozenAt _⟩
  rw [h.cellAt _ hlt, List.getElem?_eq_getElem]

theorem run_make_rowN {P : Program} (t e : TypeId) (i : TypeInfo) (z : Value) (ht : P.underlying t = some (.slice e)) (hi : P.info? e = some i) (hz : i.zero = some z)
    (n : Nat) (hbytes : i.bytes * n ≤ 281474976710656) (h63 : n ≤ maxLen) (w : World) :
    (Instr.makeSlice t (.int .i64 (n : Int)) (.int .i64 (n : Int))).run P w = .ok (.slice (some ⟨w.heap.size, 0, none⟩) n n) (w.alloc (.cells (madeCells z.cells (n * i.size)) e)) := by
  have hb : (i.bytes : Int) * (n : Int) ≤ 281474976710656 := by
    have h : ((i.bytes * n : Nat) : Int) ≤ 281474976710656 := by omega
    rwa [Int.natCast_mul] at h
  have hr := run_make (P := P) w t e i z ht hi hz .i64 .i64 n n (by omega) (Int.le_refl _) hb (by unfold maxLen at h63; omega)
  simp only [Int.toNat_natCast] at hr
  exact hr

end Go.Proofs.Ytgbkjfhmbchiiaa
