/-
  Plain words for memory, used by all walks of this seat: a slice that reads as a list of flat elements, and how such a reading is kept when other memory turns. No condition.
  Plain words for a slice that is made and then filled, element by element; make's own equation; the law's end. No condition.
  append onto a row of the call's own from any readable source; how readings and readers are kept across it. Plain laws over any program; no condition but the bounds that each names.
  Data with depth in memory: what a value reads as (numbers, texts, rows of rows), who owns the blocks it lies in, and how both are kept when other memory turns. Plain words; no condition.
-/
import Derived.Test.YtgbkjfhmbchiiaaRows
import Derived.WalkKit
import Derived.Lib.Hide
import Derived.WalkSpells
import Derived.WalkLawsBesides
import Derived.Deep.Draws
import Derived.Deep.QuietTactic
import Derived.Laws.MakeOwn
import Derived.Laws.OwnMore
import Derived.Deep.AppendLies
import Derived.Laws.AppendOwn
import Derived.OwnWalk
namespace Go.Proofs.Ytgbkjfhmbchiiaa
set_option linter.unusedVariables false
set_option linter.unusedSimpArgs false
open Go.RowKit

def inR (n a b : Int) : Bool := decide (a ≤ n) && decide (n ≤ b)

theorem inR_iff (n a b : Int) : inR n a b = true ↔ a ≤ n ∧ n ≤ b := by simp [inR]
theorem inR_no (n a b : Int) : inR n a b = false ↔ (n < a ∨ b < n) := by
  rw [← Bool.not_eq_true, inR_iff]; omega

/-- the cells cs lie in a row behind the address A, in a block from lo on and below hi -/
def Rd (w : World) (lo hi : Nat) (A : Option Addr) (cs : List Value) : Prop :=
  cs ≠ [] → ∃ b o, A = some ⟨b, o, none⟩ ∧ lo ≤ b ∧ b < hi ∧ ∀ j u, cs[j]? = some u → w.cell? ⟨b, o + j, none⟩ = some u

section
variable {w w' : World} {lo hi lo' hi' : Nat} {A : Option Addr} {cs : List Value}
theorem Rd.nil (w : World) (lo hi : Nat) (A : Option Addr) : Rd w lo hi A [] := fun h => absurd rfl h
theorem Rd.keep (h : Rd w lo hi A cs) (hk : ∀ p : Addr, lo ≤ p.block → p.block < hi → w'.cell? p = w.cell? p) : Rd w' lo hi A cs := fun hn => by
  obtain ⟨b, o, e, h1, h2, hc⟩ := h hn
  exact ⟨b, o, e, h1, h2, fun j u hu => (hk ⟨b, o + j, none⟩ h1 h2).trans (hc j u hu)⟩
theorem Rd.more (h : Rd w lo hi A cs) (h1 : lo' ≤ lo) (h2 : hi ≤ hi') : Rd w lo' hi' A cs := fun hn => by
  obtain ⟨b, o, e, g1, g2, hc⟩ := h hn
  exact ⟨b, o, e, Nat.le_trans h1 g1, Nat.lt_of_lt_of_le g2 h2, hc⟩
theorem Rd.below {C : Nat} (h : Rd w lo hi A cs) (hb : Below C w w') (hB : hi ≤ C) : Rd w' lo hi A cs := h.keep fun _ _ hp => hb.cell (Nat.lt_of_lt_of_le hp hB)
theorem Rd.drew (h : Rd w lo hi A cs) : Rd w.drew lo hi A cs := h
theorem Rd.drewN (h : Rd w lo hi A cs) (k : Nat) : Rd (w.drewN k) lo hi A cs := h
theorem Rd.alloc (h : Rd w lo hi A cs) (hB : hi ≤ w.heap.size) (o : Obj) : Rd (w.alloc o) lo hi A cs := h.keep fun p _ hp => World.cell?_alloc_lt w o p (by omega)
theorem Rd.setCell (h : Rd w lo hi A cs) {p : Addr} (hB : p.block < lo ∨ hi ≤ p.block) (u : Value) : Rd (w.setCell p u) lo hi A cs :=
  h.keep fun q g1 g2 => World.cell?_setCell_other w p q u (fun e => by subst e; omega)
theorem Rd.grown (h : Rd w lo hi A cs) {row : Option Nat} (hg : w.grownBy w' row) (hB : hi ≤ w.heap.size) (hr : ∀ g, row = some g → g < lo ∨ hi ≤ g) : Rd w' lo hi A cs :=
  h.keep fun p g1 g2 => World.cell?_of_block (hg.block p.block (by omega) (fun e => by have := hr _ e.symm; omega))
theorem Rd.of_own {base size n : Nat} {e : TypeId} {v : Value} (h : w.ownsRow base e size v n cs) : ∃ A c, v = .slice A n c ∧ n ≤ c ∧ c ≤ maxLen ∧ Rd w base w.heap.size A cs := by
  have h0 := h
  obtain ⟨hl, h⟩ := h
  rcases h with ⟨rfl, rfl⟩ | ⟨g, cap, cur, rfl, hb, hh, hn, hm, hs, ht⟩
  · have : cs = [] := List.eq_nil_of_length_eq_zero (by simpa using hl)
    subst this
    exact ⟨_, _, rfl, Nat.le_refl _, Nat.zero_le _, Rd.nil _ _ _ _⟩
  · refine ⟨_, _, rfl, hn, hm, fun _ => ⟨g, 0, rfl, hb, (h0.lt g rfl).2, fun j u hu => ?_⟩⟩
    have := h0.cells (g := g) rfl j u hu
    have e2 : (⟨g, 0, none⟩ : Addr).add j = ⟨g, 0 + j, none⟩ := by
      unfold Addr.add
      by_cases hj : j = 0 <;> simp [hj]
    rw [← e2]; exact this
end

/-- each element's cells, one behind the other -/
theorem flat_len {α : Type} (f : α → List Value) (m : Nat) (hf : ∀ x, (f x).length = m) (xs : List α) : (xs.flatMap f).length = xs.length * m := by
  induction xs with
  | nil => simp
  | cons x xs ih => simp [hf, ih, Nat.add_mul, Nat.add_comm]

theorem flat_get {α : Type} (f : α → List Value) (m : Nat) (hf : ∀ x, (f x).length = m) (xs : List α) : ∀ (k : Nat) (hk : k < xs.length) (j : Nat), j < m →
    (xs.flatMap f)[k * m + j]? = (f xs[k])[j]? := by
  induction xs with
  | nil => intro k hk; simp at hk
  | cons x xs ih =>
    intro k hk j hj
    rw [List.flatMap_cons]
    rcases k with _ | k
    · rw [List.getElem?_append_left (by rw [hf]; omega)]; simp
    · have e : (k + 1) * m + j = (f x).length + (k * m + j) := by rw [hf, Nat.add_mul]; omega
      rw [e, List.getElem?_append_right (by omega), Nat.add_sub_cancel_left]
      simpa using ih k (by simpa using hk) j hj

/-- 'xs' is what the slice (A, n) reads as: flat elements of m cells each -/
def Fl {α : Type} (f : α → List Value) (w : World) (lo hi : Nat) (A : Option Addr) (n : Nat) (xs : List α) : Prop := xs.length = n ∧ Rd w lo hi A (xs.flatMap f)

section
variable {α : Type} {f : α → List Value} {w w' : World} {lo hi lo' hi' C n : Nat} {A : Option Addr} {xs : List α}
theorem Fl.nil (f : α → List Value) (w : World) (lo hi : Nat) (A : Option Addr) : Fl f w lo hi A 0 [] := ⟨rfl, Rd.nil _ _ _ _⟩
theorem Fl.below (h : Fl f w lo hi A n xs) (hb : Below C w w') (hB : hi ≤ C) : Fl f w' lo hi A n xs := ⟨h.1, h.2.below hb hB⟩
theorem Fl.more (h : Fl f w lo hi A n xs) (h1 : lo' ≤ lo) (h2 : hi ≤ hi') : Fl f w lo' hi' A n xs := ⟨h.1, h.2.more h1 h2⟩
theorem Fl.drewN (h : Fl f w lo hi A n xs) (k : Nat) : Fl f (w.drewN k) lo hi A n xs := h
theorem Fl.alloc (h : Fl f w lo hi A n xs) (hB : hi ≤ w.heap.size) (o : Obj) : Fl f (w.alloc o) lo hi A n xs := ⟨h.1, h.2.alloc hB o⟩
theorem Fl.grown (h : Fl f w lo hi A n xs) {row : Option Nat} (hg : w.grownBy w' row) (hB : hi ≤ w.heap.size) (hr : ∀ g, row = some g → g < lo ∨ hi ≤ g) : Fl f w' lo hi A n xs := ⟨h.1, h.2.grown hg hB hr⟩
theorem Fl.setCell (h : Fl f w lo hi A n xs) {p : Addr} (hB : p.block < lo ∨ hi ≤ p.block) (u : Value) : Fl f (w.setCell p u) lo hi A n xs := ⟨h.1, h.2.setCell hB u⟩
theorem Fl.at_ {m : Nat} (h : Fl f w lo hi A n xs) (hf : ∀ x, (f x).length = m) (hm : 0 < m) {k : Nat} (hk : k < n) :
    ∃ (b o : Nat) (hl : k < xs.length), A = some ⟨b, o, none⟩ ∧ lo ≤ b ∧ b < hi ∧ ∀ j u, (f xs[k])[j]? = some u → w.cell? ⟨b, o + k * m + j, none⟩ = some u := by
  obtain ⟨h1, h2⟩ := h
  have hl : k < xs.length := by omega
  have hne : xs.flatMap f ≠ [] := by
    intro e
    have := flat_len f m hf xs
    rw [e] at this
    have h0 : 0 < xs.length * m := Nat.mul_pos (by omega) hm
    simp at this; omega
  obtain ⟨b, o, rfl, g1, g2, hc⟩ := h2 hne
  refine ⟨b, o, hl, rfl, g1, g2, fun j u hu => ?_⟩
  have hj : j < m := by
    have := List.getElem?_eq_some_iff.1 hu
    obtain ⟨hj, _⟩ := this
    rw [hf] at hj; exact hj
  have := hc (k * m + j) u (by rw [flat_get f m hf xs k hl j hj]; exact hu)
  rwa [← Nat.add_assoc] at this
end

/-- an int's cell -/
def ci (x : Int) : List Value := [.int .i64 x]
theorem ci_len (x : Int) : (ci x).length = 1 := rfl
theorem flat_ci (xs : List Int) : xs.flatMap ci = xs.map (Value.int .i64) := by
  induction xs with
  | nil => rfl
  | cons x xs ih => simp [ci, ih]

abbrev Ints (w : World) (lo hi : Nat) (A : Option Addr) (n : Nat) (xs : List Int) : Prop := Fl ci w lo hi A n xs
theorem Fl.int {w : World} {lo hi n : Nat} {A : Option Addr} {xs : List Int} (h : Ints w lo hi A n xs) {k : Nat} (hk : k < n) :
    ∃ (b o : Nat) (hl : k < xs.length), A = some ⟨b, o, none⟩ ∧ lo ≤ b ∧ b < hi ∧ w.cell? ⟨b, o + k, none⟩ = some (.int .i64 xs[k]) := by
  obtain ⟨b, o, hl, rfl, g1, g2, hc⟩ := h.at_ ci_len (by omega) hk
  refine ⟨b, o, hl, rfl, g1, g2, ?_⟩
  have := hc 0 _ rfl
  simpa using this

theorem addr_ne {b g o o' : Nat} (h : b ≠ g) : (⟨b, o, none⟩ : Addr) ≠ ⟨g, o', none⟩ := fun e => h (congrArg Addr.block e)

/-- behind a call that turned nothing below the heap's old size -/
theorem bcell {W w1 : World} {B : Nat} (hb : Below B W w1) : (∀ b o, b < B → w1.cell? ⟨b, o, none⟩ = W.cell? ⟨b, o, none⟩) ∧ (∀ b o, b < B → w1.frozen? ⟨b, o, none⟩ = W.frozen? ⟨b, o, none⟩) :=
  ⟨fun b o h => hb.cell (p := ⟨b, o, none⟩) h, fun b o h => hb.frozen (p := ⟨b, o, none⟩) h⟩
theorem below_drewN {B : Nat} {a w : World} (h : Below B a w) (n : Nat) : Below B a (w.drewN n) := ⟨h.os, h.tape, h.output, h.size, h.block⟩

/-- a callee that leaves the world alone, met inside a region that draws its order -/
theorem quiet_left {P : Program} {f : FuncId} {args : Array Value} {w : World} {n : Nat} {v : Value}
    (h : Calls P f args (w.drewN n) fun e w' => e = .returned v ∧ w.drewN n = w') : Calls P f args (w.drewN n) fun e w'' => e = .returned v ∧ ∃ m, w'' = w.drewN m :=
  h.mono fun _ _ ⟨he, hm⟩ => ⟨he, n, hm.symm⟩
theorem quiet_add_left {P : Program} {f : FuncId} {args : Array Value} {w : World} {a n : Nat} {v : Value}
    (h : Calls P f args (w.drewN (a + n)) fun e w' => e = .returned v ∧ w.drewN (a + n) = w') :
    Calls P f args (w.drewN (a + n)) fun e w'' => e = .returned v ∧ ∃ m, w'' = w.drewN (a + m) :=
  h.mono fun _ _ ⟨he, hm⟩ => ⟨he, n, hm.symm⟩

theorem bytes_nil (t : ByteArray) : t.toList = [] ↔ t.size = 0 := by
  rw [ByteArray.toList_eq, ← List.length_eq_zero_iff]; rfl

theorem ret_eq {v v' : Value} (h : v = v') : Ending.returned v = .returned v' := by rw [h]
theorem ret_sb {s s' : ByteArray} {b b' : Bool} (hs : s = s') (h : b = b') : Ending.returned (.tuple #[.string s, .bool b]) = .returned (.tuple #[.string s', .bool b']) := by rw [hs, h]
theorem ret_int {a b : Int} (h : a = b) : Ending.returned (.int .i64 a) = .returned (.int .i64 b) := by rw [h]
theorem ret_bool {a b : Bool} (h : a = b) : Ending.returned (.bool a) = .returned (.bool b) := by rw [h]

end Go.Proofs.Ytgbkjfhmbchiiaa

namespace Go.Proofs.Ytgbkjfhmbchiiaa
set_option linter.unusedVariables false
set_option linter.unusedSimpArgs false
open Go.RowKit

/-- the cells of the first k elements, and n - k zero elements behind them -/
def fillC {α : Type} (f : α → List Value) (z : List Value) (xs : List α) (n k : Nat) : List Value := (xs.take k).flatMap f ++ (List.replicate (n - k) z).flatten

def setMany : List Value → Nat → List Value → List Value
  | l, _, [] => l
  | l, p, v :: vs => setMany (l.set p v) (p + 1) vs

theorem setMany_mid (vs : List Value) : ∀ (a zs r : List Value), zs.length = vs.length → setMany (a ++ zs ++ r) a.length vs = a ++ vs ++ r := by
  induction vs with
  | nil => intro a zs r h; have : zs = [] := List.eq_nil_of_length_eq_zero h; subst this; simp [setMany]
  | cons v vs ih =>
    intro a zs r h
    rcases zs with _ | ⟨z, zs⟩
    · simp at h
    · have e : (a ++ z :: zs ++ r).set a.length v = (a ++ [v]) ++ zs ++ r := by
        simp [List.set_append_right]
      have := ih (a ++ [v]) zs r (by simpa using h)
      rw [setMany, e]
      simp only [List.length_append, List.length_singleton] at this
      rw [this]; simp

theorem fillC_step {α : Type} (f : α → List Value) (z : List Value) (m : Nat) (hf : ∀ x, (f x).length = m) (hz : z.length = m) (xs : List α) (n k : Nat) (hl : xs.length = n) (hk : k < n) (hk' : k < xs.length) :
    setMany (fillC f z xs n k) (k * m) (f xs[k]) = fillC f z xs n (k + 1) := by
  have e1 : ((xs.take k).flatMap f).length = k * m := by rw [flat_len f m hf, List.length_take]; rw [Nat.min_eq_left (by omega)]
  have e2 : List.replicate (n - k) z = z :: List.replicate (n - (k + 1)) z := by
    rw [← List.replicate_succ]; congr 1; omega
  unfold fillC
  rw [e2, List.flatten_cons, ← List.append_assoc, ← e1, setMany_mid _ _ _ _ (by rw [hz, hf]), List.take_succ_eq_append_getElem hk', List.flatMap_append]
  simp

theorem fillC_len {α : Type} (f : α → List Value) (z : List Value) (m : Nat) (hf : ∀ x, (f x).length = m) (hz : z.length = m) (xs : List α) (n k : Nat) (hl : xs.length = n) (hk : k ≤ n) : (fillC f z xs n k).length = n * m := by
  unfold fillC
  rw [List.length_append, flat_len f m hf, List.length_take, Nat.min_eq_left (by omega), List.length_flatten, List.map_replicate, List.sum_replicate_nat, hz, ← Nat.add_mul]
  congr 1; omega

theorem fillC_all {α : Type} (f : α → List Value) (z : List Value) (xs : List α) (n : Nat) (hl : xs.length = n) : fillC f z xs n n = xs.flatMap f := by
  unfold fillC
  rw [List.take_of_length_le (by omega), Nat.sub_self]; simp

theorem made_cells (z : List Value) (hz : 0 < z.length) (n : Nat) : (madeCells z.toArray (n * z.length)).toList = (List.replicate n z).flatten := by
  have hfl : ∀ (n i : Nat), i < n * z.length → (List.replicate n z).flatten[i]? = z[i % z.length]? := by
    intro n
    induction n with
    | zero => intro i h; omega
    | succ n ih =>
      intro i h
      rw [List.replicate_succ, List.flatten_cons]
      by_cases hi : i < z.length
      · rw [List.getElem?_append_left hi, Nat.mod_eq_of_lt hi]
      · rw [List.getElem?_append_right (by omega), ih (i - z.length) (by rw [Nat.add_mul] at h; omega), ← Nat.mod_eq_sub_mod (by omega)]
  refine List.ext_getElem? fun i => ?_
  unfold madeCells
  rw [Array.getElem?_toList, Array.getElem?_map]
  by_cases h : i < n * z.length
  · rw [hfl n i h]
    have hm : i % z.length < z.length := Nat.mod_lt _ hz
    simp [h, hm]
  · rw [List.getElem?_eq_none (l := (List.replicate n z).flatten) (by rw [List.length_flatten, List.map_replicate, List.sum_replicate_nat]; omega)]
    simp [h]

theorem stored3 {w : World} {base n g cap : Nat} {e : TypeId} {cs : List Value} {size : Nat} (h : w.ownsRow base e size (.slice (some ⟨g, 0, none⟩) n cap) n cs) (p : Nat) (a b c : Value) :
    (((w.setCell ⟨g, p, none⟩ a).setCell ⟨g, p + 1, none⟩ b).setCell ⟨g, p + 2, none⟩ c).ownsRow base e size (.slice (some ⟨g, 0, none⟩) n cap) n (setMany cs p [a, b, c]) :=
  (((h.stored p a).1.stored (p + 1) b).1.stored (p + 2) c).1
theorem stored4 {w : World} {base n g cap : Nat} {e : TypeId} {cs : List Value} {size : Nat} (h : w.ownsRow base e size (.slice (some ⟨g, 0, none⟩) n cap) n cs) (p : Nat) (a b c d : Value) :
    ((((w.setCell ⟨g, p, none⟩ a).setCell ⟨g, p + 1, none⟩ b).setCell ⟨g, p + 2, none⟩ c).setCell ⟨g, p + 3, none⟩ d).ownsRow base e size (.slice (some ⟨g, 0, none⟩) n cap) n (setMany cs p [a, b, c, d]) :=
  ((((h.stored p a).1.stored (p + 1) b).1.stored (p + 2) c).1.stored (p + 3) d).1
theorem grown_none {w w' : World} (h : Below w.heap.size w w') (row : Option Nat) : w.grownBy w' row := ⟨h.os, h.tape, h.output, h.size, fun i hi _ => h.block i hi⟩
theorem own_below {w w' : World} {base size n : Nat} {e : TypeId} {v : Value} {cs : List Value} (h : w.ownsRow base e size v n cs) (hb : Below w.heap.size w w') : w'.ownsRow base e size v n cs := by
  refine h.kept (grown_none hb (some w.heap.size)) ?_
  rcases hv : v.ownBlock with _ | k
  · exact .inl rfl
  · refine .inr (fun e => ?_)
    injection e with e
    have := (h.lt k hv).2; omega

/-- the cells of one element of a row of the call's own -/
theorem own_cells {w : World} {base size n g k : Nat} {e : TypeId} {cs : List Value} {cap : Nat} (h : w.ownsRow base e size (.slice (some ⟨g, 0, none⟩) n cap) n cs) (hk : k < n) (j : Nat) (hj : j < size) :
    ∃ u, w.cell? ⟨g, k * size + j, none⟩ = some u ∧ w.frozen? ⟨g, k * size + j, none⟩ = false := by
  have hlt : k * size + j < n * size := by
    have : (k + 1) * size ≤ n * size := Nat.mul_le_mul_right _ hk
    rw [Nat.add_mul] at this; omega
  refine ⟨cs[k * size + j]'(by rw [h.1]; exact hlt), ?_, h.frozenAt _⟩
  rw [h.cellAt _ hlt, List.getElem?_eq_getElem]

theorem run_make_rowN {P : Program} (t e : TypeId) (i : TypeInfo) (z : Value) (ht : P.underlying t = some (.slice e)) (hi : P.info? e = some i) (hz : i.zero = some z)
    (n : Nat) (hbytes : i.bytes * n ≤ 281474976710656) (h63 : n ≤ maxLen) (w : World) :
    (Instr.makeSlice t (.int .i64 (n : Int)) (.int .i64 (n : Int))).run P w = .ok (.slice (some ⟨w.heap.size, 0, none⟩) n n) (w.alloc (.cells (madeCells z.cells (n * i.size)) e)) := by
  have hb : (i.bytes : Int) * (n : Int) ≤ 281474976710656 := by
    have h : ((i.bytes * n : Nat) : Int) ≤ 281474976710656 := by omega
    rwa [Int.natCast_mul] at h
  have hr := run_make (P := P) w t e i z ht hi hz .i64 .i64 n n (by omega) (Int.le_refl _) hb (by unfold maxLen at h63; omega)
  simp only [Int.toNat_natCast] at hr
  exact hr

end Go.Proofs.Ytgbkjfhmbchiiaa

namespace Go.Proofs.Ytgbkjfhmbchiiaa
set_option linter.unusedVariables false
set_option linter.unusedSimpArgs false
open Go.RowKit

/-- what the laws ask of a slice type t over the element type e -/
structure ElemT (P : Program) (t e : TypeId) (z : Value) (size bytes : Nat) : Prop where
  under : P.underlying t = some (.slice e)
  info : (P.info? e).map (fun i => (i.zero, i.size, i.bytes)) = some (some z, size, bytes)
  cells : z.cells.size = size
  pos : 0 < size

theorem run_app {P : Program} {w : World} {t e ty : TypeId} {z : Value} {size bytes base n m c lo hi : Nat} {A : Option Addr} {v : Value} {cs news : List Value} (E : ElemT P t e z size bytes)
    (hown : w.ownsRow base e size v n cs) (hr : Rd w lo hi A news) (hl : news.length = m * size) (h1 : ∀ u ∈ news, u.oneCell' = true) (h63 : n + m ≤ maxLen) (hbytes : (n + m) * bytes ≤ 140737488355328) (hbase : base ≤ w.heap.size) :
    ∃ v' w', (Builtin.append_ #[t, t] ty #[v, .slice A m c]).run P w = .ok v' w' ∧ w'.ownsRow base e size v' (n + m) (cs ++ news) ∧ w.grownBy w' v.ownBlock := by
  obtain ⟨i, hi, hz, hz1, hz2⟩ := info_parts E.info
  by_cases hne : news = []
  · subst hne
    have hm : m = 0 := by
      rcases Nat.eq_zero_or_pos m with h0 | h0
      · exact h0
      · have := Nat.mul_pos h0 E.pos
        simp at hl; omega
    subst hm
    rcases A with _ | ad
    · refine ⟨v, w, ?_, by simpa using hown, World.grownBy.refl w _⟩
      rcases hown.2 with ⟨rfl, rfl⟩ | ⟨g, cap, cur, rfl, _, _, hnc, _⟩
      · simp [Builtin.append_, run_underlying E.under, sizeOf, typeInfo, hi, Builtin.lenOf, Builtin.firstCells]
      · simp [Builtin.append_, run_underlying E.under, sizeOf, typeInfo, hi, Builtin.lenOf, Builtin.firstCells, hnc, storeCells]
    · obtain ⟨v', w', hrun, h2, h3, _⟩ := run_append_own (P := P) w base t ty e i z size bytes E.under hi hz hz1 hz2 E.cells E.pos v n cs hown ad 0 c [] (by simp) (by simp) (by simp) h63 hbytes hbase
      exact ⟨v', w', hrun, h2, h3⟩
  · obtain ⟨b, o, rfl, _, _, hc⟩ := hr hne
    obtain ⟨v', w', hrun, h2, h3, _⟩ := run_append_own (P := P) w base t ty e i z size bytes E.under hi hz hz1 hz2 E.cells E.pos v n cs hown ⟨b, o, none⟩ m c news hl (fun j u hu => by
      have e2 : (⟨b, o, none⟩ : Addr).add j = ⟨b, o + j, none⟩ := by
        unfold Addr.add
        by_cases hj : j = 0 <;> simp [hj]
      rw [e2]; exact hc j u hu) h1 h63 hbytes hbase
    exact ⟨v', w', hrun, h2, h3⟩

theorem wpList_app {P : Program} {w : World} {ops : Array Oper} {rest : List Oper} {o : Oper} {a : Act} {Q : Exit → Act → World → Prop} {s x : Operand} {t e : TypeId} {z : Value} {size bytes base n m c lo hi : Nat} {A : Option Addr} {v : Value} {cs news : List Value}
    (E : ElemT P t e z size bytes) (hown : w.ownsRow base e size v n cs) (hr : Rd w lo hi A news) (hl : news.length = m * size) (h1 : ∀ u ∈ news, u.oneCell' = true) (h63 : n + m ≤ maxLen) (hbytes : (n + m) * bytes ≤ 140737488355328) (hbase : base ≤ w.heap.size)
    (hgd : Region.wanted o (yielded ops a.tmps) = true) (ho : o.op = .call { callee := .builtin .append, args := #[s, x], argTypes := #[t, t] }) (hs : a.eval s = v) (hx : a.eval x = .slice A m c)
    (h : ∀ v' w', w'.ownsRow base e size v' (n + m) (cs ++ news) → w.grownBy w' v.ownBlock → wpList P ops Q rest (a.put o.dst v') w') : wpList P ops Q (o :: rest) a w :=
  wpList_step fun K hK => by
    rw [if_pos hgd]
    obtain ⟨v', w', hr, h2, h3⟩ := run_app (P := P) (ty := o.type) (c := c) E hown hr hl h1 h63 hbytes hbase
    unfold Oper.wp execOp
    simp only [ho, resolve, invoke, builtin, Sem.run_bind, Sem.run_pure, Result.andThen_ok, List.map_toArray, List.map_cons, List.map_nil, hs, hx, hr]
    exact hK _ _ (h v' w' h2 h3)

/-- a block that was just made -/
theorem rd_new (w : World) (cs : List Value) (e : TypeId) : Rd (w.alloc (.cells cs.toArray e)) w.heap.size (w.heap.size + 1) (some ⟨w.heap.size, 0, none⟩) cs := fun _ =>
  ⟨w.heap.size, 0, rfl, Nat.le_refl _, Nat.lt_succ_self _, fun j u hu => by
    rw [cell_of_row (w.alloc (.cells cs.toArray e)) w.heap.size (0 + j) _ _ _ (heap_alloc_new w _)]
    simpa using hu⟩

theorem below_app {C base e size n : Nat} {w wr w' : World} {v : Value} {cs : List Value} (hb : Below C w wr) (hC : C ≤ base) (hbase : base ≤ wr.heap.size) (hown : wr.ownsRow base e size v n cs) (hg : wr.grownBy w' v.ownBlock) : Below C w w' :=
  hb.grown hg (by omega) (fun k hk => by have := (hown.lt k hk).1; omega)
theorem own_nil_lit (w : World) (e : TypeId) (size : Nat) : (w.alloc (.cells #[] e)).ownsRow w.heap.size e size (.slice (some ⟨w.heap.size, 0, none⟩) 0 0) 0 [] := by
  simpa using World.ownsRow_lit (e := e) (size := size) w #[] 0 (Nat.le_refl _) (Nat.zero_le _) (by simp)
theorem own_kept_row {w w' : World} {base e size n g : Nat} {v : Value} {cs : List Value} (h : w.ownsRow base e size v n cs) (hg : w.grownBy w' (some g)) (hlt : g < base) : w'.ownsRow base e size v n cs :=
  h.kept hg (by
    rcases hv : v.ownBlock with _ | k
    · exact .inl rfl
    · refine .inr (fun e => ?_)
      injection e with e
      have := (h.lt k hv).1; omega)
theorem below_row {C g : Nat} {w wr w' : World} (hb : Below C w wr) (hC : C ≤ wr.heap.size) (hg : wr.grownBy w' (some g)) (hlt : C ≤ g) : Below C w w' :=
  hb.grown hg hC (fun k hk => by injection hk with hk; omega)

end Go.Proofs.Ytgbkjfhmbchiiaa

namespace Go.Proofs.Ytgbkjfhmbchiiaa
set_option linter.unusedVariables false
set_option linter.unusedSimpArgs false
open Go.RowKit

theorem flat_lenG {α β : Type} (f : α → List β) (m : Nat) (hf : ∀ x, (f x).length = m) (xs : List α) : (xs.flatMap f).length = xs.length * m := by
  induction xs with
  | nil => simp
  | cons x xs ih => simp [hf, ih, Nat.add_mul, Nat.add_comm]
theorem flat_getG {α β : Type} (f : α → List β) (m : Nat) (hf : ∀ x, (f x).length = m) (xs : List α) : ∀ (k : Nat) (hk : k < xs.length) (j : Nat), j < m → (xs.flatMap f)[k * m + j]? = (f xs[k])[j]? := by
  induction xs with
  | nil => intro k hk; simp at hk
  | cons x xs ih =>
    intro k hk j hj
    rw [List.flatMap_cons]
    rcases k with _ | k
    · rw [List.getElem?_append_left (by rw [hf]; omega)]; simp
    · have e : (k + 1) * m + j = (f x).length + (k * m + j) := by rw [hf, Nat.add_mul]; omega
      rw [e, List.getElem?_append_right (by omega), Nat.add_sub_cancel_left]
      simpa using ih k (by simpa using hk) j hj

/-- a datum: a number, a text, a truth value, or a row of n elements of m fields each, its fields one behind the other -/
inductive D where
  | int (n : Int)
  | str (s : ByteArray)
  | bool (b : Bool)
  | arr (m n : Nat) (es : List D)

mutual
/-- what a value reads as; all that it leads to lies in blocks from lo on and below hi -/
def D.rd (w : World) (lo hi : Nat) : D → Value → Prop
  | .int n, v => v = .int .i64 n
  | .str s, v => v = .string s ∧ s.size ≤ 9223372036854775807
  | .bool b, v => v = .bool b
  | .arr m n es, v => ∃ A c vs, v = .slice A n c ∧ n ≤ c ∧ c ≤ 9223372036854775807 ∧ es.length = n * m ∧ Rd w lo hi A vs ∧ D.rdL w lo hi es vs
def D.rdL (w : World) (lo hi : Nat) : List D → List Value → Prop
  | [], vs => vs = []
  | d :: ds, vs => ∃ v r, vs = v :: r ∧ D.rd w lo hi d v ∧ D.rdL w lo hi ds r
end

mutual
theorem D.rd.keep {w w' : World} {lo hi lo' hi' : Nat} (hk : ∀ p : Addr, lo ≤ p.block → p.block < hi → w'.cell? p = w.cell? p) (h1 : lo' ≤ lo) (h2 : hi ≤ hi') : ∀ (d : D) (v : Value), D.rd w lo hi d v → D.rd w' lo' hi' d v
  | .int n, v, h => by unfold D.rd at h ⊢; exact h
  | .str s, v, h => by unfold D.rd at h ⊢; exact h
  | .bool b, v, h => by unfold D.rd at h ⊢; exact h
  | .arr m n es, v, h => by
    unfold D.rd at h ⊢
    obtain ⟨A, c, vs, g1, g2, g3, g4, g5, g6⟩ := h
    exact ⟨A, c, vs, g1, g2, g3, g4, (g5.keep hk).more h1 h2, D.rdL.keep hk h1 h2 es vs g6⟩
theorem D.rdL.keep {w w' : World} {lo hi lo' hi' : Nat} (hk : ∀ p : Addr, lo ≤ p.block → p.block < hi → w'.cell? p = w.cell? p) (h1 : lo' ≤ lo) (h2 : hi ≤ hi') : ∀ (ds : List D) (vs : List Value), D.rdL w lo hi ds vs → D.rdL w' lo' hi' ds vs
  | [], vs, h => by unfold D.rdL at h ⊢; exact h
  | d :: ds, vs, h => by
    unfold D.rdL at h ⊢
    obtain ⟨v, r, g1, g2, g3⟩ := h
    exact ⟨v, r, g1, D.rd.keep hk h1 h2 d v g2, D.rdL.keep hk h1 h2 ds r g3⟩
end

theorem D.rdL.length {w : World} {lo hi : Nat} : ∀ {ds : List D} {vs : List Value}, D.rdL w lo hi ds vs → vs.length = ds.length
  | [], vs, h => by unfold D.rdL at h; subst h; rfl
  | d :: ds, vs, h => by
    unfold D.rdL at h
    obtain ⟨v, r, rfl, -, g3⟩ := h
    simp [D.rdL.length g3]
theorem D.rdL.get {w : World} {lo hi : Nat} : ∀ {ds : List D} {vs : List Value}, D.rdL w lo hi ds vs → ∀ {j : Nat} {d : D}, ds[j]? = some d → ∃ v, vs[j]? = some v ∧ D.rd w lo hi d v
  | [], vs, h, j, d, hd => by simp at hd
  | d :: ds, vs, h, j, d', hd => by
    unfold D.rdL at h
    obtain ⟨v, r, rfl, g2, g3⟩ := h
    rcases j with _ | j
    · simp at hd; subst hd; exact ⟨v, rfl, g2⟩
    · simp at hd; simpa using D.rdL.get g3 hd
theorem D.rdL.mk {w : World} {lo hi : Nat} : ∀ {ds : List D} {vs : List Value}, vs.length = ds.length → (∀ (j : Nat) d, ds[j]? = some d → ∃ v, vs[j]? = some v ∧ D.rd w lo hi d v) → D.rdL w lo hi ds vs
  | [], vs, h, _ => by unfold D.rdL; exact List.eq_nil_of_length_eq_zero h
  | d :: ds, [], h, _ => by simp at h
  | d :: ds, v :: vs, h, hg => by
    unfold D.rdL
    refine ⟨v, vs, rfl, ?_, D.rdL.mk (by simpa using h) fun j e he => ?_⟩
    · obtain ⟨v', h1, h2⟩ := hg 0 d rfl
      simp at h1; subst h1; exact h2
    · simpa using hg (j + 1) e (by simpa using he)

section
variable {w w' : World} {lo hi lo' hi' C : Nat} {d : D} {v : Value}
theorem D.rd.below (h : D.rd w lo hi d v) (hb : Below C w w') (hB : hi ≤ C) : D.rd w' lo hi d v := D.rd.keep (fun _ _ hp => hb.cell (Nat.lt_of_lt_of_le hp hB)) (Nat.le_refl _) (Nat.le_refl _) _ _ h
theorem D.rd.more (h : D.rd w lo hi d v) (h1 : lo' ≤ lo) (h2 : hi ≤ hi') : D.rd w lo' hi' d v := D.rd.keep (w := w) (fun _ _ _ => rfl) h1 h2 _ _ h
theorem D.rd.drewN (h : D.rd w lo hi d v) (k : Nat) : D.rd (w.drewN k) lo hi d v := D.rd.keep (w := w) (w' := w.drewN k) (fun _ _ _ => rfl) (Nat.le_refl _) (Nat.le_refl _) _ _ h
theorem D.rd.drew (h : D.rd w lo hi d v) : D.rd w.drew lo hi d v := D.rd.keep (w := w) (w' := w.drew) (fun _ _ _ => rfl) (Nat.le_refl _) (Nat.le_refl _) _ _ h
theorem D.rd.alloc (h : D.rd w lo hi d v) (hB : hi ≤ w.heap.size) (o : Obj) : D.rd (w.alloc o) lo hi d v := D.rd.keep (fun p _ hp => World.cell?_alloc_lt w o p (by omega)) (Nat.le_refl _) (Nat.le_refl _) _ _ h
theorem D.rd.setCell (h : D.rd w lo hi d v) {p : Addr} (hB : p.block < lo ∨ hi ≤ p.block) (u : Value) : D.rd (w.setCell p u) lo hi d v :=
  D.rd.keep (fun q g1 g2 => World.cell?_setCell_other w p q u (fun e => by subst e; omega)) (Nat.le_refl _) (Nat.le_refl _) _ _ h
theorem D.rd.grown (h : D.rd w lo hi d v) {row : Option Nat} (hg : w.grownBy w' row) (hB : hi ≤ w.heap.size) (hr : ∀ g, row = some g → g < lo ∨ hi ≤ g) : D.rd w' lo hi d v :=
  D.rd.keep (fun p g1 g2 => World.cell?_of_block (hg.block p.block (by omega) (fun e => by have := hr _ e.symm; omega))) (Nat.le_refl _) (Nat.le_refl _) _ _ h
theorem D.rd.fresh (h : D.rd w lo w.heap.size d v) (hb : Below w.heap.size w w') : D.rd w' lo w'.heap.size d v := (h.below hb (Nat.le_refl _)).more (Nat.le_refl _) hb.size
theorem D.rd.int_inv {n : Int} (h : D.rd w lo hi (.int n) v) : v = .int .i64 n := by unfold D.rd at h; exact h
theorem D.rd.str_inv {s : ByteArray} (h : D.rd w lo hi (.str s) v) : v = .string s ∧ s.size ≤ 9223372036854775807 := by unfold D.rd at h; exact h
theorem D.rd.bool_inv {b : Bool} (h : D.rd w lo hi (.bool b) v) : v = .bool b := by unfold D.rd at h; exact h
theorem D.rd.arr_inv {m n : Nat} {es : List D} (h : D.rd w lo hi (.arr m n es) v) : ∃ A c, v = .slice A n c ∧ n ≤ c ∧ c ≤ 9223372036854775807 ∧ D.rd w lo hi (.arr m n es) (.slice A n c) := by
  have h0 := h
  unfold D.rd at h
  obtain ⟨A, c, vs, rfl, g2, g3, _⟩ := h
  exact ⟨A, c, rfl, g2, g3, h0⟩
theorem D.rd.len {m n n' c : Nat} {A : Option Addr} {es : List D} (h : D.rd w lo hi (.arr m n es) (.slice A n' c)) : n' = n ∧ n ≤ c ∧ c ≤ 9223372036854775807 := by
  unfold D.rd at h
  obtain ⟨A, c, vs, e, g2, g3, _⟩ := h
  injection e with e1 e2 e3
  subst e2 e3
  exact ⟨rfl, g2, g3⟩
/-- the fields of element k, one by one -/
theorem D.rd.at_ {α : Type} {f : α → List D} {m n n' c : Nat} {A : Option Addr} {xs : List α} (hf : ∀ x, (f x).length = m) (hm : 0 < m) (h : D.rd w lo hi (.arr m n (xs.flatMap f)) (.slice A n' c)) {k : Nat} (hk : k < n) :
    ∃ (b o : Nat) (hl : k < xs.length), A = some ⟨b, o, none⟩ ∧ lo ≤ b ∧ b < hi ∧ ∀ j d, (f xs[k])[j]? = some d → ∃ u, w.cell? ⟨b, o + k * m + j, none⟩ = some u ∧ D.rd w lo hi d u := by
  unfold D.rd at h
  obtain ⟨A', c', vs, e, g2, g3, g4, g5, g6⟩ := h
  injection e with e1 e2 e3
  subst e1
  have hx : xs.length = n := by
    rw [flat_lenG f m hf] at g4
    exact Nat.eq_of_mul_eq_mul_right hm g4
  have hl : k < xs.length := by omega
  have hvl := D.rdL.length g6
  have hne : vs ≠ [] := by
    intro e
    subst e
    have h0 : 0 < n * m := Nat.mul_pos (by omega) hm
    rw [← hvl] at g4
    simp at g4; omega
  obtain ⟨b, o, rfl, k1, k2, hc⟩ := g5 hne
  refine ⟨b, o, hl, rfl, k1, k2, fun j d hd => ?_⟩
  have hj : j < m := by
    have := List.getElem?_eq_some_iff.1 hd
    obtain ⟨hj, _⟩ := this
    rw [hf] at hj; exact hj
  obtain ⟨u, hu, hr⟩ := D.rdL.get g6 (j := k * m + j) (d := d) (by rw [flat_getG f m hf xs k hl j hj]; exact hd)
  refine ⟨u, ?_, hr⟩
  have := hc _ _ hu
  rwa [← Nat.add_assoc] at this
end

mutual
/-- what a value reads as, all of it in blocks of its own, F, that may be written -/
def D.own (w : World) : D → List Nat → Value → Prop
  | .int n, F, v => F = [] ∧ v = .int .i64 n
  | .str s, F, v => F = [] ∧ v = .string s ∧ s.size ≤ 9223372036854775807
  | .bool b, F, v => F = [] ∧ v = .bool b
  | .arr m n es, F, v => ∃ A c vs F', v = .slice A n c ∧ n ≤ c ∧ c ≤ 9223372036854775807 ∧ es.length = n * m ∧ D.ownL w es F' vs ∧
      ((vs = [] ∧ F = F') ∨ ∃ g o, A = some ⟨g, o, none⟩ ∧ F = g :: F' ∧ ∀ j u, vs[j]? = some u → w.cell? ⟨g, o + j, none⟩ = some u ∧ w.frozen? ⟨g, o + j, none⟩ = false)
def D.ownL (w : World) : List D → List Nat → List Value → Prop
  | [], F, vs => F = [] ∧ vs = []
  | d :: ds, F, vs => ∃ v r F1 F2, vs = v :: r ∧ F = F1 ++ F2 ∧ D.own w d F1 v ∧ D.ownL w ds F2 r
end

mutual
theorem D.own.keep {w w' : World} : ∀ (d : D) (F : List Nat) (v : Value), (∀ g ∈ F, w'.heap[g]? = w.heap[g]?) → D.own w d F v → D.own w' d F v
  | .int n, F, v, _, h => by unfold D.own at h ⊢; exact h
  | .str s, F, v, _, h => by unfold D.own at h ⊢; exact h
  | .bool b, F, v, _, h => by unfold D.own at h ⊢; exact h
  | .arr m n es, F, v, hk, h => by
    unfold D.own at h ⊢
    obtain ⟨A, c, vs, F', g1, g2, g3, g4, g5, g6⟩ := h
    rcases g6 with ⟨rfl, rfl⟩ | ⟨g, o, rfl, rfl, hc⟩
    · exact ⟨A, c, _, _, g1, g2, g3, g4, D.ownL.keep es _ _ hk g5, .inl ⟨rfl, rfl⟩⟩
    · refine ⟨_, c, vs, F', g1, g2, g3, g4, D.ownL.keep es _ _ (fun q hq => hk q (List.mem_cons_of_mem _ hq)) g5, .inr ⟨g, o, rfl, rfl, fun j u hu => ?_⟩⟩
      have hg := hk g List.mem_cons_self
      exact ⟨(World.cell?_of_block hg).trans (hc j u hu).1, (World.frozen?_of_block hg).trans (hc j u hu).2⟩
theorem D.ownL.keep {w w' : World} : ∀ (ds : List D) (F : List Nat) (vs : List Value), (∀ g ∈ F, w'.heap[g]? = w.heap[g]?) → D.ownL w ds F vs → D.ownL w' ds F vs
  | [], F, vs, _, h => by unfold D.ownL at h ⊢; exact h
  | d :: ds, F, vs, hk, h => by
    unfold D.ownL at h ⊢
    obtain ⟨v, r, F1, F2, g1, rfl, g3, g4⟩ := h
    exact ⟨v, r, F1, F2, g1, rfl, D.own.keep d F1 v (fun g hg => hk g (List.mem_append_left _ hg)) g3, D.ownL.keep ds F2 r (fun g hg => hk g (List.mem_append_right _ hg)) g4⟩
end

mutual
theorem D.own.rd {w : World} {lo hi : Nat} : ∀ (d : D) (F : List Nat) (v : Value), (∀ g ∈ F, lo ≤ g ∧ g < hi) → D.own w d F v → D.rd w lo hi d v
  | .int n, F, v, _, h => by unfold D.own at h; unfold D.rd; exact h.2
  | .str s, F, v, _, h => by unfold D.own at h; unfold D.rd; exact h.2
  | .bool b, F, v, _, h => by unfold D.own at h; unfold D.rd; exact h.2
  | .arr m n es, F, v, hk, h => by
    unfold D.own at h
    unfold D.rd
    obtain ⟨A, c, vs, F', g1, g2, g3, g4, g5, g6⟩ := h
    rcases g6 with ⟨rfl, rfl⟩ | ⟨g, o, rfl, rfl, hc⟩
    · exact ⟨A, c, _, g1, g2, g3, g4, Rd.nil _ _ _ _, D.ownL.rd es _ _ hk g5⟩
    · have hg := hk g List.mem_cons_self
      exact ⟨_, c, vs, g1, g2, g3, g4, fun _ => ⟨g, o, rfl, hg.1, hg.2, fun j u hu => (hc j u hu).1⟩, D.ownL.rd es F' vs (fun q hq => hk q (List.mem_cons_of_mem _ hq)) g5⟩
theorem D.ownL.rd {w : World} {lo hi : Nat} : ∀ (ds : List D) (F : List Nat) (vs : List Value), (∀ g ∈ F, lo ≤ g ∧ g < hi) → D.ownL w ds F vs → D.rdL w lo hi ds vs
  | [], F, vs, _, h => by unfold D.ownL at h; unfold D.rdL; exact h.2
  | d :: ds, F, vs, hk, h => by
    unfold D.ownL at h
    unfold D.rdL
    obtain ⟨v, r, F1, F2, g1, rfl, g3, g4⟩ := h
    exact ⟨v, r, g1, D.own.rd d F1 v (fun g hg => hk g (List.mem_append_left _ hg)) g3, D.ownL.rd ds F2 r (fun g hg => hk g (List.mem_append_right _ hg)) g4⟩
end

theorem D.ownL.app {w : World} : ∀ {ds es : List D} {F G : List Nat} {vs us : List Value}, D.ownL w ds F vs → D.ownL w es G us → D.ownL w (ds ++ es) (F ++ G) (vs ++ us)
  | [], es, F, G, vs, us, h, k => by unfold D.ownL at h; obtain ⟨rfl, rfl⟩ := h; simpa using k
  | d :: ds, es, F, G, vs, us, h, k => by
    unfold D.ownL at h
    obtain ⟨v, r, F1, F2, rfl, rfl, g3, g4⟩ := h
    simp only [List.cons_append]
    unfold D.ownL
    exact ⟨v, r ++ us, F1, F2 ++ G, rfl, by simp, g3, D.ownL.app g4 k⟩
theorem D.ownL.nil (w : World) : D.ownL w [] [] [] := by unfold D.ownL; exact ⟨rfl, rfl⟩
theorem D.ownL.cons {w : World} {d : D} {ds : List D} {F G : List Nat} {v : Value} {vs : List Value} (h : D.own w d F v) (k : D.ownL w ds G vs) : D.ownL w (d :: ds) (F ++ G) (v :: vs) := by unfold D.ownL; exact ⟨v, vs, F, G, rfl, rfl, h, k⟩
theorem D.ownL.length {w : World} : ∀ {ds : List D} {F : List Nat} {vs : List Value}, D.ownL w ds F vs → vs.length = ds.length
  | [], F, vs, h => by unfold D.ownL at h; obtain ⟨rfl, rfl⟩ := h; rfl
  | d :: ds, F, vs, h => by
    unfold D.ownL at h
    obtain ⟨v, r, F1, F2, rfl, rfl, -, g4⟩ := h
    simp [D.ownL.length g4]
theorem D.own.int (w : World) (n : Int) : D.own w (.int n) [] (.int .i64 n) := by unfold D.own; exact ⟨rfl, rfl⟩
theorem D.own.str (w : World) {s : ByteArray} (h : s.size ≤ 9223372036854775807) : D.own w (.str s) [] (.string s) := by unfold D.own; exact ⟨rfl, rfl, h⟩
theorem D.own.bool (w : World) (b : Bool) : D.own w (.bool b) [] (.bool b) := by unfold D.own; exact ⟨rfl, rfl⟩

/-- a value in memory of its own, in blocks from lo on -/
def Own (w : World) (lo : Nat) (d : D) (v : Value) : Prop := ∃ F : List Nat, F.Nodup ∧ (∀ g ∈ F, lo ≤ g ∧ g < w.heap.size) ∧ D.own w d F v
theorem Own.rd {w : World} {lo : Nat} {d : D} {v : Value} (h : Own w lo d v) : D.rd w lo w.heap.size d v := by
  obtain ⟨F, _, h2, h3⟩ := h
  exact D.own.rd d F v h2 h3
theorem Own.grown {w w' : World} {lo : Nat} {d : D} {v : Value} {row : Option Nat} (h : Own w lo d v) (hg : w.grownBy w' row) (hr : ∀ g, row = some g → g < lo) : Own w' lo d v := by
  obtain ⟨F, h1, h2, h3⟩ := h
  refine ⟨F, h1, fun g hg' => ⟨(h2 g hg').1, Nat.lt_of_lt_of_le (h2 g hg').2 hg.size⟩, D.own.keep d F v (fun g hg' => hg.block g (h2 g hg').2 (fun e => ?_)) h3⟩
  have := hr g e.symm
  have := (h2 g hg').1; omega
theorem Own.fresh {w w' : World} {lo : Nat} {d : D} {v : Value} (h : Own w lo d v) (hb : Below w.heap.size w w') : Own w' lo d v := h.grown (grown_none hb none) (fun _ e => by cases e)
theorem Own.low {w : World} {lo lo' : Nat} {d : D} {v : Value} (h : Own w lo d v) (hl : lo' ≤ lo) : Own w lo' d v := by
  obtain ⟨F, h1, h2, h3⟩ := h
  exact ⟨F, h1, fun g hg => ⟨Nat.le_trans hl (h2 g hg).1, (h2 g hg).2⟩, h3⟩
theorem Own.drewN {w : World} {lo : Nat} {d : D} {v : Value} (h : Own w lo d v) (k : Nat) : Own (w.drewN k) lo d v := by
  obtain ⟨F, h1, h2, h3⟩ := h
  exact ⟨F, h1, h2, D.own.keep (w := w) (w' := w.drewN k) d F v (fun g _ => rfl) h3⟩

/-- a row of the call's own whose elements' parts lie in blocks of their own, from base on, apart from it -/
def Grow (w : World) (base : Nat) (E : TypeId) (m : Nat) (v : Value) (n : Nat) (es : List D) : Prop :=
  ∃ vs F, w.ownsRow base E m v n vs ∧ D.ownL w es F vs ∧ F.Nodup ∧ (∀ g ∈ F, base ≤ g ∧ g < w.heap.size) ∧ ∀ g, v.ownBlock = some g → g ∉ F
theorem Grow.nil {w : World} {base m : Nat} {E : TypeId} {v : Value} (h : w.ownsRow base E m v 0 []) : Grow w base E m v 0 [] := ⟨[], [], h, D.ownL.nil w, List.nodup_nil, fun _ h => (by cases h), fun _ _ h => (by cases h)⟩
theorem Grow.grown {w w' : World} {base m n : Nat} {E : TypeId} {v : Value} {es : List D} {row : Option Nat} (h : Grow w base E m v n es) (hg : w.grownBy w' row) (hr : ∀ g, row = some g → g < base) : Grow w' base E m v n es := by
  obtain ⟨vs, F, h1, h2, h3, h4, h5⟩ := h
  refine ⟨vs, F, h1.kept hg ?_, D.ownL.keep es F vs (fun g hg' => hg.block g (h4 g hg').2 (fun e => ?_)) h2, h3, fun g hg' => ⟨(h4 g hg').1, Nat.lt_of_lt_of_le (h4 g hg').2 hg.size⟩, h5⟩
  · rcases hv : v.ownBlock with _ | k
    · exact .inl rfl
    · refine .inr (fun e => ?_)
      have := hr k e.symm
      have := (h1.lt k hv).1; omega
  · have := hr g e.symm
    have := (h4 g hg').1; omega
theorem Grow.fresh {w w' : World} {base m n : Nat} {E : TypeId} {v : Value} {es : List D} (h : Grow w base E m v n es) (hb : Below w.heap.size w w') : Grow w' base E m v n es := h.grown (grown_none hb none) (fun _ e => by cases e)
theorem Grow.drewN {w : World} {base m n : Nat} {E : TypeId} {v : Value} {es : List D} (h : Grow w base E m v n es) (k : Nat) : Grow (w.drewN k) base E m v n es := by
  obtain ⟨vs, F, h1, h2, h3, h4, h5⟩ := h
  exact ⟨vs, F, h1, D.ownL.keep (w := w) (w' := w.drewN k) es F vs (fun g _ => rfl) h2, h3, h4, h5⟩
theorem Grow.own {w : World} {base m n : Nat} {E : TypeId} {v : Value} {es : List D} (h : Grow w base E m v n es) : Own w base (.arr m n es) v := by
  obtain ⟨vs, F, h1, h2, h3, h4, h5⟩ := h
  have hl := D.ownL.length h2
  obtain ⟨A, c, rfl, hc1, hc2, -⟩ := Rd.of_own h1
  unfold maxLen at hc2
  have hes : es.length = n * m := by rw [← hl]; exact h1.1
  rcases h1.2 with ⟨e, rfl⟩ | ⟨g, cap, cur, e, hb, hh, _⟩
  · have : vs = [] := List.eq_nil_of_length_eq_zero (by simpa using h1.1)
    subst this
    refine ⟨F, h3, h4, ?_⟩
    unfold D.own
    exact ⟨A, c, [], F, rfl, hc1, hc2, hes, h2, .inl ⟨rfl, rfl⟩⟩
  · injection e with e1 e2 e3
    subst e1
    have hgF := h5 g rfl
    refine ⟨g :: F, List.nodup_cons.2 ⟨hgF, h3⟩, fun q hq => ?_, ?_⟩
    · rcases List.mem_cons.1 hq with rfl | hq
      · exact ⟨hb, (h1.lt q rfl).2⟩
      · exact h4 q hq
    · unfold D.own
      refine ⟨_, c, vs, F, rfl, hc1, hc2, hes, h2, .inr ⟨g, 0, rfl, rfl, fun j u hu => ⟨?_, ?_⟩⟩⟩
      · have := h1.cells (g := g) rfl j u hu
        have e2 : (⟨g, 0, none⟩ : Addr).add j = ⟨g, 0 + j, none⟩ := by
          unfold Addr.add
          by_cases hj : j = 0 <;> simp [hj]
        rw [← e2]; exact this
      · exact frozen_of_row w g _ _ _ hh
/-- one element more: its parts lie in blocks that the row does not know -/
theorem Grow.app {w w1 w' : World} {base m n k : Nat} {E : TypeId} {v v' : Value} {es ds : List D} {ob : Obj} {G : List Nat} {us : List Value} (h : Grow w base E m v n es) (hd : D.ownL w ds G us) (hG : G.Nodup) (hGb : ∀ g ∈ G, base ≤ g ∧ g < w.heap.size)
    (hap : ∀ (vs : List Value) (F : List Nat), w.ownsRow base E m v n vs → D.ownL w es F vs → (∀ g ∈ F, g ∉ G)) (hvG : ∀ g, v.ownBlock = some g → g ∉ G) (e1 : w1 = w.alloc ob)
    (hown : ∀ vs, w.ownsRow base E m v n vs → w'.ownsRow base E m v' (n + k) (vs ++ us)) (hg : w1.grownBy w' v.ownBlock) (hat : v'.ownBlock = v.ownBlock ∨ v'.ownBlock = some w1.heap.size) : Grow w' base E m v' (n + k) (es ++ ds) := by
  subst e1
  obtain ⟨vs, F, h1, h2, h3, h4, h5⟩ := h
  have hap' := hap vs F h1 h2
  have hsz : (w.alloc ob).heap.size = w.heap.size + 1 := by simp
  have hkeep : ∀ g, g < w.heap.size → v.ownBlock ≠ some g → w'.heap[g]? = w.heap[g]? := fun g hlt hne =>
    (hg.block g (by omega) (fun e => hne e.symm)).trans (Below.heap_alloc _ _ _ hlt)
  refine ⟨vs ++ us, F ++ G, hown vs h1, D.ownL.app (D.ownL.keep es F vs (fun g hg' => hkeep g (h4 g hg').2 (fun e => h5 g e hg')) h2) (D.ownL.keep ds G us (fun g hg' => hkeep g (hGb g hg').2 (fun e => hvG g e hg')) hd), List.nodup_append.2 ⟨h3, hG, fun a ha b hb e => ?_⟩, fun g hg' => ?_, fun g hv hg' => ?_⟩
  · subst e; exact hap' a ha hb
  · rcases List.mem_append.1 hg' with hg' | hg'
    · exact ⟨(h4 g hg').1, Nat.lt_of_lt_of_le (h4 g hg').2 (by have := hg.size; omega)⟩
    · exact ⟨(hGb g hg').1, Nat.lt_of_lt_of_le (hGb g hg').2 (by have := hg.size; omega)⟩
  · rcases hat with hat | hat
    · rcases List.mem_append.1 hg' with hg' | hg'
      · exact h5 g (by rw [← hat]; exact hv) hg'
      · exact hvG g (by rw [← hat]; exact hv) hg'
    · rw [hat] at hv
      injection hv with hv
      rcases List.mem_append.1 hg' with hg' | hg'
      · have := (h4 g hg').2; omega
      · have := (hGb g hg').2; omega

/-- numbers -/
def intsD (xs : List Int) : D := .arr 1 xs.length (xs.map .int)
theorem ownL_ints {w : World} : ∀ (xs : List Int), D.ownL w (xs.map D.int) [] (xs.flatMap ci)
  | [] => D.ownL.nil w
  | x :: xs => by
    have := D.ownL.cons (D.own.int w x) (ownL_ints (w := w) xs)
    simpa [ci] using this
theorem rdL_ints {w : World} {lo hi : Nat} : ∀ {xs : List Int} {vs : List Value}, D.rdL w lo hi (xs.map D.int) vs → vs = xs.flatMap ci
  | [], vs, h => by simp only [List.map_nil] at h; unfold D.rdL at h; subst h; rfl
  | x :: xs, vs, h => by
    simp only [List.map_cons] at h
    unfold D.rdL at h
    obtain ⟨v, r, rfl, h2, h3⟩ := h
    rw [rdL_ints h3, h2.int_inv]; rfl
theorem D.rd.ints {w : World} {lo hi n c : Nat} {A : Option Addr} {xs : List Int} (h : D.rd w lo hi (intsD xs) (.slice A n c)) : Ints w lo hi A n xs := by
  unfold intsD D.rd at h
  obtain ⟨A', c', vs, e, g2, g3, g4, g5, g6⟩ := h
  injection e with e1 e2 e3
  subst e1 e2
  rw [rdL_ints g6] at g5
  exact ⟨rfl, g5⟩
theorem rd_ints {w : World} {lo hi n c : Nat} {A : Option Addr} {xs : List Int} (h : Ints w lo hi A n xs) (hn : n ≤ c) (hc : c ≤ 9223372036854775807) : D.rd w lo hi (intsD xs) (.slice A n c) := by
  unfold intsD D.rd
  obtain ⟨h1, h2⟩ := h
  subst h1
  refine ⟨A, c, xs.flatMap ci, rfl, hn, hc, by simp, h2, D.rdL.mk (by rw [flat_len ci 1 ci_len]; simp) fun j d hd => ?_⟩
  rw [List.getElem?_map] at hd
  rw [flat_ci, List.getElem?_map]
  rcases hx : xs[j]? with _ | x
  · rw [hx] at hd; cases hd
  · rw [hx] at hd
    injection hd with hd
    subst hd
    refine ⟨_, rfl, ?_⟩
    unfold D.rd; rfl
theorem own_ints {w : World} {base n : Nat} {E : TypeId} {v : Value} {xs : List Int} (h : w.ownsRow base E 1 v n (xs.flatMap ci)) : Own w base (intsD xs) v := by
  have hl : xs.length = n := by
    have := h.1
    rw [flat_len ci 1 ci_len] at this
    omega
  subst hl
  exact Grow.own (E := E) ⟨_, [], h, ownL_ints xs, List.nodup_nil, fun _ h => (by cases h), fun _ _ h => (by cases h)⟩

end Go.Proofs.Ytgbkjfhmbchiiaa
