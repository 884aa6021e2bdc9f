/-
  Plain words for memory, used by all walks of this seat: a slice that reads as a list of flat elements, and how such a reading is kept when other memory turns. No condition.
  The walks of inRange, of the program, and of l6In, of the reference: each answers whether a number lies in a range. No condition.
-/
import Derived.Test.YtgnhanbdfohjaaaRows
import Derived.WalkKit
import Derived.Lib.Hide
import Derived.WalkSpells
import Derived.WalkLawsBesides
import Derived.Deep.Draws
import Derived.Deep.QuietTactic
namespace Go.Proofs.Ytgnhanbdfohjaaa
set_option linter.unusedVariables false
set_option linter.unusedSimpArgs false
open Go.RowKit

def inR (n a b : Int) : Bool := decide (a ≤ n) && decide (n ≤ b)

theorem inR_iff (n a b : Int) : inR n a b = true ↔ a ≤ n ∧ n ≤ b := by simp [inR]
theorem inR_no (n a b : Int) : inR n a b = false ↔ (n < a ∨ b < n) := by
  rw [← Bool.not_eq_true, inR_iff]; omega

/-- the cells cs lie in a row behind the address A, in a block from lo on and below hi -/
def Rd (w : World) (lo hi : Nat) (A : Option Addr) (cs : List Value) : Prop :=
  cs ≠ [] → ∃ b o, A = some ⟨b, o, none⟩ ∧ lo ≤ b ∧ b < hi ∧ ∀ j u, cs[j]? = some u → w.cell? ⟨b, o + j, none⟩ = some u

section
variable {w w' : World} {lo hi lo' hi' : Nat} {A : Option Addr} {cs : List Value}
theorem Rd.nil (w : World) (lo hi : Nat) (A : Option Addr) : Rd w lo hi A [] := fun h => absurd rfl h
theorem Rd.keep (h : Rd w lo hi A cs) (hk : ∀ p : Addr, lo ≤ p.block → p.block < hi → w'.cell? p = w.cell? p) : Rd w' lo hi A cs := fun hn => by
  obtain ⟨b, o, e, h1, h2, hc⟩ := h hn
  exact ⟨b, o, e, h1, h2, fun j u hu => (hk ⟨b, o + j, none⟩ h1 h2).trans (hc j u hu)⟩
theorem Rd.more (h : Rd w lo hi A cs) (h1 : lo' ≤ lo) (h2 : hi ≤ hi') : Rd w lo' hi' A cs := fun hn => by
  obtain ⟨b, o, e, g1, g2, hc⟩ := h hn
  exact ⟨b, o, e, Nat.le_trans h1 g1, Nat.lt_of_lt_of_le g2 h2, hc⟩
theorem Rd.below {C : Nat} (h : Rd w lo hi A cs) (hb : Below C w w') (hB : hi ≤ C) : Rd w' lo hi A cs := h.keep fun _ _ hp => hb.cell (Nat.lt_of_lt_of_le hp hB)
theorem Rd.drew (h : Rd w lo hi A cs) : Rd w.drew lo hi A cs := h
theorem Rd.drewN (h : Rd w lo hi A cs) (k : Nat) : Rd (w.drewN k) lo hi A cs := h
theorem Rd.alloc (h : Rd w lo hi A cs) (hB : hi ≤ w.heap.size) (o : Obj) : Rd (w.alloc o) lo hi A cs := h.keep fun p _ hp => World.cell?_alloc_lt w o p (by omega)
theorem Rd.setCell (h : Rd w lo hi A cs) {p : Addr} (hB : p.block < lo ∨ hi ≤ p.block) (u : Value) : Rd (w.setCell p u) lo hi A cs :=
  h.keep fun q g1 g2 => World.cell?_setCell_other w p q u (fun e => by subst e; omega)
theorem Rd.grown (h : Rd w lo hi A cs) {row : Option Nat} (hg : w.grownBy w' row) (hB : hi ≤ w.heap.size) (hr : ∀ g, row = some g → g < lo ∨ hi ≤ g) : Rd w' lo hi A cs :=
  h.keep fun p g1 g2 => World.cell?_of_block (hg.block p.block (by omega) (fun e => by have := hr _ e.symm; omega))
theorem Rd.of_own {base size n : Nat} {e : TypeId} {v : Value} (h : w.ownsRow base e size v n cs) : ∃ A c, v = .slice A n c ∧ n ≤ c ∧ c ≤ maxLen ∧ Rd w base w.heap.size A cs := by
  have h0 := h
  obtain ⟨hl, h⟩ := h
  rcases h with ⟨rfl, rfl⟩ | ⟨g, cap, cur, rfl, hb, hh, hn, hm, hs, ht⟩
  · have : cs = [] := List.eq_nil_of_length_eq_zero (by simpa using hl)
    subst this
    exact ⟨_, _, rfl, Nat.le_refl _, Nat.zero_le _, Rd.nil _ _ _ _⟩
  · refine ⟨_, _, rfl, hn, hm, fun _ => ⟨g, 0, rfl, hb, (h0.lt g rfl).2, fun j u hu => ?_⟩⟩
    have := h0.cells (g := g) rfl j u hu
    have e2 : (⟨g, 0, none⟩ : Addr).add j = ⟨g, 0 + j, none⟩ := by
      unfold Addr.add
      by_cases hj : j = 0 <;> simp [hj]
    rw [← e2]; exact this
end

/-- each element's cells, one behind the other -/
theorem flat_len {α : Type} (f : α → List Value) (m : Nat) (hf : ∀ x, (f x).length = m) (xs : List α) : (xs.flatMap f).length = xs.length * m := by
  induction xs with
  | nil => simp
  | cons x xs ih => simp [hf, ih, Nat.add_mul, Nat.add_comm]

theorem flat_get {α : Type} (f : α → List Value) (m : Nat) (hf : ∀ x, (f x).length = m) (xs : List α) : ∀ (k : Nat) (hk : k < xs.length) (j : Nat), j < m →
    (xs.flatMap f)[k * m + j]? = (f xs[k])[j]? := by
  induction xs with
  | nil => intro k hk; simp at hk
  | cons x xs ih =>
    intro k hk j hj
    rw [List.flatMap_cons]
    rcases k with _ | k
    · rw [List.getElem?_append_left (by rw [hf]; omega)]; simp
    · have e : (k + 1) * m + j = (f x).length + (k * m + j) := by rw [hf, Nat.add_mul]; omega
      rw [e, List.getElem?_append_right (by omega), Nat.add_sub_cancel_left]
      simpa using ih k (by simpa using hk) j hj

/-- 'xs' is what the slice (A, n) reads as: flat elements of m cells each -/
def Fl {α : Type} (f : α → List Value) (w : World) (lo hi : Nat) (A : Option Addr) (n : Nat) (xs : List α) : Prop := xs.length = n ∧ Rd w lo hi A (xs.flatMap f)

section
variable {α : Type} {f : α → List Value} {w w' : World} {lo hi lo' hi' C n : Nat} {A : Option Addr} {xs : List α}
theorem Fl.nil (f : α → List Value) (w : World) (lo hi : Nat) (A : Option Addr) : Fl f w lo hi A 0 [] := ⟨rfl, Rd.nil _ _ _ _⟩
theorem Fl.below (h : Fl f w lo hi A n xs) (hb : Below C w w') (hB : hi ≤ C) : Fl f w' lo hi A n xs := ⟨h.1, h.2.below hb hB⟩
theorem Fl.more (h : Fl f w lo hi A n xs) (h1 : lo' ≤ lo) (h2 : hi ≤ hi') : Fl f w lo' hi' A n xs := ⟨h.1, h.2.more h1 h2⟩
theorem Fl.drewN (h : Fl f w lo hi A n xs) (k : Nat) : Fl f (w.drewN k) lo hi A n xs := h
theorem Fl.alloc (h : Fl f w lo hi A n xs) (hB : hi ≤ w.heap.size) (o : Obj) : Fl f (w.alloc o) lo hi A n xs := ⟨h.1, h.2.alloc hB o⟩
theorem Fl.grown (h : Fl f w lo hi A n xs) {row : Option Nat} (hg : w.grownBy w' row) (hB : hi ≤ w.heap.size) (hr : ∀ g, row = some g → g < lo ∨ hi ≤ g) : Fl f w' lo hi A n xs := ⟨h.1, h.2.grown hg hB hr⟩
theorem Fl.setCell (h : Fl f w lo hi A n xs) {p : Addr} (hB : p.block < lo ∨ hi ≤ p.block) (u : Value) : Fl f (w.setCell p u) lo hi A n xs := ⟨h.1, h.2.setCell hB u⟩
theorem Fl.at_ {m : Nat} (h : Fl f w lo hi A n xs) (hf : ∀ x, (f x).length = m) (hm : 0 < m) {k : Nat} (hk : k < n) :
    ∃ (b o : Nat) (hl : k < xs.length), A = some ⟨b, o, none⟩ ∧ lo ≤ b ∧ b < hi ∧ ∀ j u, (f xs[k])[j]? = some u → w.cell? ⟨b, o + k * m + j, none⟩ = some u := by
  obtain ⟨h1, h2⟩ := h
  have hl : k < xs.length := by omega
  have hne : xs.flatMap f ≠ [] := by
    intro e
    have := flat_len f m hf xs
    rw [e] at this
    have h0 : 0 < xs.length * m := Nat.mul_pos (by omega) hm
    simp at this; omega
  obtain ⟨b, o, rfl, g1, g2, hc⟩ := h2 hne
  refine ⟨b, o, hl, rfl, g1, g2, fun j u hu => ?_⟩
  have hj : j < m := by
    have := List.getElem?_eq_some_iff.1 hu
    obtain ⟨hj, _⟩ := this
    rw [hf] at hj; exact hj
  have := hc (k * m + j) u (by rw [flat_get f m hf xs k hl j hj]; exact hu)
  rwa [← Nat.add_assoc] at this
end

/-- an int's cell -/
def ci (x : Int) : List Value := [.int .i64 x]
theorem ci_len (x : Int) : (ci x).length = 1 := rfl
theorem flat_ci (xs : List Int) : xs.flatMap ci = xs.map (Value.int .i64) := by
  induction xs with
  | nil => rfl
  | cons x xs ih => simp [ci, ih]

abbrev Ints (w : World) (lo hi : Nat) (A : Option Addr) (n : Nat) (xs : List Int) : Prop := Fl ci w lo hi A n xs
theorem Fl.int {w : World} {lo hi n : Nat} {A : Option Addr} {xs : List Int} (h : Ints w lo hi A n xs) {k : Nat} (hk : k < n) :
    ∃ (b o : Nat) (hl : k < xs.length), A = some ⟨b, o, none⟩ ∧ lo ≤ b ∧ b < hi ∧ w.cell? ⟨b, o + k, none⟩ = some (.int .i64 xs[k]) := by
  obtain ⟨b, o, hl, rfl, g1, g2, hc⟩ := h.at_ ci_len (by omega) hk
  refine ⟨b, o, hl, rfl, g1, g2, ?_⟩
  have := hc 0 _ rfl
  simpa using this

theorem addr_ne {b g o o' : Nat} (h : b ≠ g) : (⟨b, o, none⟩ : Addr) ≠ ⟨g, o', none⟩ := fun e => h (congrArg Addr.block e)

/-- behind a call that turned nothing below the heap's old size -/
theorem bcell {W w1 : World} {B : Nat} (hb : Below B W w1) : (∀ b o, b < B → w1.cell? ⟨b, o, none⟩ = W.cell? ⟨b, o, none⟩) ∧ (∀ b o, b < B → w1.frozen? ⟨b, o, none⟩ = W.frozen? ⟨b, o, none⟩) :=
  ⟨fun b o h => hb.cell (p := ⟨b, o, none⟩) h, fun b o h => hb.frozen (p := ⟨b, o, none⟩) h⟩
theorem below_drewN {B : Nat} {a w : World} (h : Below B a w) (n : Nat) : Below B a (w.drewN n) := ⟨h.os, h.tape, h.output, h.size, h.block⟩

/-- a callee that leaves the world alone, met inside a region that draws its order -/
theorem quiet_left {P : Program} {f : FuncId} {args : Array Value} {w : World} {n : Nat} {v : Value}
    (h : Calls P f args (w.drewN n) fun e w' => e = .returned v ∧ w.drewN n = w') : Calls P f args (w.drewN n) fun e w'' => e = .returned v ∧ ∃ m, w'' = w.drewN m :=
  h.mono fun _ _ ⟨he, hm⟩ => ⟨he, n, hm.symm⟩
theorem quiet_add_left {P : Program} {f : FuncId} {args : Array Value} {w : World} {a n : Nat} {v : Value}
    (h : Calls P f args (w.drewN (a + n)) fun e w' => e = .returned v ∧ w.drewN (a + n) = w') :
    Calls P f args (w.drewN (a + n)) fun e w'' => e = .returned v ∧ ∃ m, w'' = w.drewN (a + m) :=
  h.mono fun _ _ ⟨he, hm⟩ => ⟨he, n, hm.symm⟩

theorem bytes_nil (t : ByteArray) : t.toList = [] ↔ t.size = 0 := by
  rw [ByteArray.toList_eq, ← List.length_eq_zero_iff]; rfl

theorem ret_eq {v v' : Value} (h : v = v') : Ending.returned v = .returned v' := by rw [h]
theorem ret_sb {s s' : ByteArray} {b b' : Bool} (hs : s = s') (h : b = b') : Ending.returned (.tuple #[.string s, .bool b]) = .returned (.tuple #[.string s', .bool b']) := by rw [hs, h]
theorem ret_int {a b : Int} (h : a = b) : Ending.returned (.int .i64 a) = .returned (.int .i64 b) := by rw [h]
theorem ret_bool {a b : Bool} (h : a = b) : Ending.returned (.bool a) = .returned (.bool b) := by rw [h]

end Go.Proofs.Ytgnhanbdfohjaaa

namespace Go.Proofs.Ytgnhanbdfohjaaa
set_option linter.unusedVariables false
set_option linter.unusedSimpArgs false
open Go.RowKit

set_option maxHeartbeats 400000 in
theorem inRange_any (n a b : Int) (w : World) :
    Calls Try.prog 58 #[.int .i64 n, .int .i64 a, .int .i64 b] w fun e w' => e = .returned (.bool (inR n a b)) ∧ w = w' := by
  go_enter Try.func58, Try.ntmps58
  go_wp2
  all_goals go_ret
  · exact ⟨by simp [inR, *], rfl⟩
  · have h : ¬ a ≤ n := by omega
    exact ⟨by simp [inR, h], rfl⟩

set_option maxHeartbeats 400000 in
theorem l6In_any (n a b : Int) (w : World) :
    Calls Try.prog 64 #[.int .i64 n, .int .i64 a, .int .i64 b] w fun e w' => e = .returned (.bool (inR n a b)) ∧ w = w' := by
  go_enter Try.func64, Try.ntmps64
  go_wp2
  all_goals go_ret
  · exact ⟨by simp [inR, *], rfl⟩
  · have h : ¬ a ≤ n := by omega
    exact ⟨by simp [inR, h], rfl⟩

end Go.Proofs.Ytgnhanbdfohjaaa
