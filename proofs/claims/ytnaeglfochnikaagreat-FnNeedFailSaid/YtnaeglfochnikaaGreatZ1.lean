/-
  Plain words for memory, used by all walks of this seat: a slice that reads as a list of flat elements, and how such a reading is kept when other memory turns. No condition.
  What DeltaApply computes, in plain Lean: operations that fit, what each makes of a base, and all of them together. No program in sight.
  Objects and packs in plain Lean: which objects are valid, their ids, and the objects of a pack. No program in sight.
  The walks of inRange, of the program, and of l6In, of the reference: each answers whether a number lies in a range. No condition.
  The walks of DeltaApply, of the program and of the reference, and of what they call: each returns strD and okD of the base and the operations. Condition: the slice's length fits an int64.
-/
import Derived.Test.YtnaeglfochnikaaGreatRows
import Derived.WalkKit
import Derived.Lib.Hide
import Derived.WalkSpells
import Derived.WalkLawsBesides
import Derived.Deep.Draws
import Derived.Deep.QuietTactic
import Derived.BigQuiet
import Derived.Deep.DeepCutAuto
namespace Go.Proofs.YtnaeglfochnikaaGreat
set_option linter.unusedVariables false
set_option linter.unusedSimpArgs false
open Go.RowKit

def inR (n a b : Int) : Bool := decide (a ≤ n) && decide (n ≤ b)

theorem inR_iff (n a b : Int) : inR n a b = true ↔ a ≤ n ∧ n ≤ b := by simp [inR]
theorem inR_no (n a b : Int) : inR n a b = false ↔ (n < a ∨ b < n) := by
  rw [← Bool.not_eq_true, inR_iff]; omega

/-- the cells cs lie in a row behind the address A, in a block from lo on and below hi -/
def Rd (w : World) (lo hi : Nat) (A : Option Addr) (cs : List Value) : Prop :=
  cs ≠ [] → ∃ b o, A = some ⟨b, o, none⟩ ∧ lo ≤ b ∧ b < hi ∧ ∀ j u, cs[j]? = some u → w.cell? ⟨b, o + j, none⟩ = some u

section
variable {w w' : World} {lo hi lo' hi' : Nat} {A : Option Addr} {cs : List Value}
theorem Rd.nil (w : World) (lo hi : Nat) (A : Option Addr) : Rd w lo hi A [] := fun h => absurd rfl h
theorem Rd.keep (h : Rd w lo hi A cs) (hk : ∀ p : Addr, lo ≤ p.block → p.block < hi → w'.cell? p = w.cell? p) : Rd w' lo hi A cs := fun hn => by
  obtain ⟨b, o, e, h1, h2, hc⟩ := h hn
  exact ⟨b, o, e, h1, h2, fun j u hu => (hk ⟨b, o + j, none⟩ h1 h2).trans (hc j u hu)⟩
theorem Rd.more (h : Rd w lo hi A cs) (h1 : lo' ≤ lo) (h2 : hi ≤ hi') : Rd w lo' hi' A cs := fun hn => by
  obtain ⟨b, o, e, g1, g2, hc⟩ := h hn
  exact ⟨b, o, e, Nat.le_trans h1 g1, Nat.lt_of_lt_of_le g2 h2, hc⟩
theorem Rd.below {C : Nat} (h : Rd w lo hi A cs) (hb : Below C w w') (hB : hi ≤ C) : Rd w' lo hi A cs := h.keep fun _ _ hp => hb.cell (Nat.lt_of_lt_of_le hp hB)
theorem Rd.drew (h : Rd w lo hi A cs) : Rd w.drew lo hi A cs := h
theorem Rd.drewN (h : Rd w lo hi A cs) (k : Nat) : Rd (w.drewN k) lo hi A cs := h
theorem Rd.alloc (h : Rd w lo hi A cs) (hB : hi ≤ w.heap.size) (o : Obj) : Rd (w.alloc o) lo hi A cs := h.keep fun p _ hp => World.cell?_alloc_lt w o p (by omega)
theorem Rd.setCell (h : Rd w lo hi A cs) {p : Addr} (hB : p.block < lo ∨ hi ≤ p.block) (u : Value) : Rd (w.setCell p u) lo hi A cs :=
  h.keep fun q g1 g2 => World.cell?_setCell_other w p q u (fun e => by subst e; omega)
theorem Rd.grown (h : Rd w lo hi A cs) {row : Option Nat} (hg : w.grownBy w' row) (hB : hi ≤ w.heap.size) (hr : ∀ g, row = some g → g < lo ∨ hi ≤ g) : Rd w' lo hi A cs :=
  h.keep fun p g1 g2 => World.cell?_of_block (hg.block p.block (by omega) (fun e => by have := hr _ e.symm; omega))
theorem Rd.of_own {base size n : Nat} {e : TypeId} {v : Value} (h : w.ownsRow base e size v n cs) : ∃ A c, v = .slice A n c ∧ n ≤ c ∧ c ≤ maxLen ∧ Rd w base w.heap.size A cs := by
  have h0 := h
  obtain ⟨hl, h⟩ := h
  rcases h with ⟨rfl, rfl⟩ | ⟨g, cap, cur, rfl, hb, hh, hn, hm, hs, ht⟩
  · have : cs = [] := List.eq_nil_of_length_eq_zero (by simpa using hl)
    subst this
    exact ⟨_, _, rfl, Nat.le_refl _, Nat.zero_le _, Rd.nil _ _ _ _⟩
  · refine ⟨_, _, rfl, hn, hm, fun _ => ⟨g, 0, rfl, hb, (h0.lt g rfl).2, fun j u hu => ?_⟩⟩
    have := h0.cells (g := g) rfl j u hu
    have e2 : (⟨g, 0, none⟩ : Addr).add j = ⟨g, 0 + j, none⟩ := by
      unfold Addr.add
      by_cases hj : j = 0 <;> simp [hj]
    rw [← e2]; exact this
end

/-- each element's cells, one behind the other -/
theorem flat_len {α : Type} (f : α → List Value) (m : Nat) (hf : ∀ x, (f x).length = m) (xs : List α) : (xs.flatMap f).length = xs.length * m := by
  induction xs with
  | nil => simp
  | cons x xs ih => simp [hf, ih, Nat.add_mul, Nat.add_comm]

theorem flat_get {α : Type} (f : α → List Value) (m : Nat) (hf : ∀ x, (f x).length = m) (xs : List α) : ∀ (k : Nat) (hk : k < xs.length) (j : Nat), j < m →
    (xs.flatMap f)[k * m + j]? = (f xs[k])[j]? := by
  induction xs with
  | nil => intro k hk; simp at hk
  | cons x xs ih =>
    intro k hk j hj
    rw [List.flatMap_cons]
    rcases k with _ | k
    · rw [List.getElem?_append_left (by rw [hf]; omega)]; simp
    · have e : (k + 1) * m + j = (f x).length + (k * m + j) := by rw [hf, Nat.add_mul]; omega
      rw [e, List.getElem?_append_right (by omega), Nat.add_sub_cancel_left]
      simpa using ih k (by simpa using hk) j hj

/-- 'xs' is what the slice (A, n) reads as: flat elements of m cells each -/
def Fl {α : Type} (f : α → List Value) (w : World) (lo hi : Nat) (A : Option Addr) (n : Nat) (xs : List α) : Prop := xs.length = n ∧ Rd w lo hi A (xs.flatMap f)

section
variable {α : Type} {f : α → List Value} {w w' : World} {lo hi lo' hi' C n : Nat} {A : Option Addr} {xs : List α}
theorem Fl.nil (f : α → List Value) (w : World) (lo hi : Nat) (A : Option Addr) : Fl f w lo hi A 0 [] := ⟨rfl, Rd.nil _ _ _ _⟩
theorem Fl.below (h : Fl f w lo hi A n xs) (hb : Below C w w') (hB : hi ≤ C) : Fl f w' lo hi A n xs := ⟨h.1, h.2.below hb hB⟩
theorem Fl.more (h : Fl f w lo hi A n xs) (h1 : lo' ≤ lo) (h2 : hi ≤ hi') : Fl f w lo' hi' A n xs := ⟨h.1, h.2.more h1 h2⟩
theorem Fl.drewN (h : Fl f w lo hi A n xs) (k : Nat) : Fl f (w.drewN k) lo hi A n xs := h
theorem Fl.alloc (h : Fl f w lo hi A n xs) (hB : hi ≤ w.heap.size) (o : Obj) : Fl f (w.alloc o) lo hi A n xs := ⟨h.1, h.2.alloc hB o⟩
theorem Fl.grown (h : Fl f w lo hi A n xs) {row : Option Nat} (hg : w.grownBy w' row) (hB : hi ≤ w.heap.size) (hr : ∀ g, row = some g → g < lo ∨ hi ≤ g) : Fl f w' lo hi A n xs := ⟨h.1, h.2.grown hg hB hr⟩
theorem Fl.setCell (h : Fl f w lo hi A n xs) {p : Addr} (hB : p.block < lo ∨ hi ≤ p.block) (u : Value) : Fl f (w.setCell p u) lo hi A n xs := ⟨h.1, h.2.setCell hB u⟩
theorem Fl.at_ {m : Nat} (h : Fl f w lo hi A n xs) (hf : ∀ x, (f x).length = m) (hm : 0 < m) {k : Nat} (hk : k < n) :
    ∃ (b o : Nat) (hl : k < xs.length), A = some ⟨b, o, none⟩ ∧ lo ≤ b ∧ b < hi ∧ ∀ j u, (f xs[k])[j]? = some u → w.cell? ⟨b, o + k * m + j, none⟩ = some u := by
  obtain ⟨h1, h2⟩ := h
  have hl : k < xs.length := by omega
  have hne : xs.flatMap f ≠ [] := by
    intro e
    have := flat_len f m hf xs
    rw [e] at this
    have h0 : 0 < xs.length * m := Nat.mul_pos (by omega) hm
    simp at this; omega
  obtain ⟨b, o, rfl, g1, g2, hc⟩ := h2 hne
  refine ⟨b, o, hl, rfl, g1, g2, fun j u hu => ?_⟩
  have hj : j < m := by
    have := List.getElem?_eq_some_iff.1 hu
    obtain ⟨hj, _⟩ := this
    rw [hf] at hj; exact hj
  have := hc (k * m + j) u (by rw [flat_get f m hf xs k hl j hj]; exact hu)
  rwa [← Nat.add_assoc] at this
end

/-- an int's cell -/
def ci (x : Int) : List Value := [.int .i64 x]
theorem ci_len (x : Int) : (ci x).length = 1 := rfl
theorem flat_ci (xs : List Int) : xs.flatMap ci = xs.map (Value.int .i64) := by
  induction xs with
  | nil => rfl
  | cons x xs ih => simp [ci, ih]

abbrev Ints (w : World) (lo hi : Nat) (A : Option Addr) (n : Nat) (xs : List Int) : Prop := Fl ci w lo hi A n xs
theorem Fl.int {w : World} {lo hi n : Nat} {A : Option Addr} {xs : List Int} (h : Ints w lo hi A n xs) {k : Nat} (hk : k < n) :
    ∃ (b o : Nat) (hl : k < xs.length), A = some ⟨b, o, none⟩ ∧ lo ≤ b ∧ b < hi ∧ w.cell? ⟨b, o + k, none⟩ = some (.int .i64 xs[k]) := by
  obtain ⟨b, o, hl, rfl, g1, g2, hc⟩ := h.at_ ci_len (by omega) hk
  refine ⟨b, o, hl, rfl, g1, g2, ?_⟩
  have := hc 0 _ rfl
  simpa using this

theorem addr_ne {b g o o' : Nat} (h : b ≠ g) : (⟨b, o, none⟩ : Addr) ≠ ⟨g, o', none⟩ := fun e => h (congrArg Addr.block e)

/-- behind a call that turned nothing below the heap's old size -/
theorem bcell {W w1 : World} {B : Nat} (hb : Below B W w1) : (∀ b o, b < B → w1.cell? ⟨b, o, none⟩ = W.cell? ⟨b, o, none⟩) ∧ (∀ b o, b < B → w1.frozen? ⟨b, o, none⟩ = W.frozen? ⟨b, o, none⟩) :=
  ⟨fun b o h => hb.cell (p := ⟨b, o, none⟩) h, fun b o h => hb.frozen (p := ⟨b, o, none⟩) h⟩
theorem below_drewN {B : Nat} {a w : World} (h : Below B a w) (n : Nat) : Below B a (w.drewN n) := ⟨h.os, h.tape, h.output, h.size, h.block⟩

/-- a callee that leaves the world alone, met inside a region that draws its order -/
theorem quiet_left {P : Program} {f : FuncId} {args : Array Value} {w : World} {n : Nat} {v : Value}
    (h : Calls P f args (w.drewN n) fun e w' => e = .returned v ∧ w.drewN n = w') : Calls P f args (w.drewN n) fun e w'' => e = .returned v ∧ ∃ m, w'' = w.drewN m :=
  h.mono fun _ _ ⟨he, hm⟩ => ⟨he, n, hm.symm⟩
theorem quiet_add_left {P : Program} {f : FuncId} {args : Array Value} {w : World} {a n : Nat} {v : Value}
    (h : Calls P f args (w.drewN (a + n)) fun e w' => e = .returned v ∧ w.drewN (a + n) = w') :
    Calls P f args (w.drewN (a + n)) fun e w'' => e = .returned v ∧ ∃ m, w'' = w.drewN (a + m) :=
  h.mono fun _ _ ⟨he, hm⟩ => ⟨he, n, hm.symm⟩

theorem bytes_nil (t : ByteArray) : t.toList = [] ↔ t.size = 0 := by
  rw [ByteArray.toList_eq, ← List.length_eq_zero_iff]; rfl

theorem ret_eq {v v' : Value} (h : v = v') : Ending.returned v = .returned v' := by rw [h]
theorem ret_sb {s s' : ByteArray} {b b' : Bool} (hs : s = s') (h : b = b') : Ending.returned (.tuple #[.string s, .bool b]) = .returned (.tuple #[.string s', .bool b']) := by rw [hs, h]
theorem ret_int {a b : Int} (h : a = b) : Ending.returned (.int .i64 a) = .returned (.int .i64 b) := by rw [h]
theorem ret_bool {a b : Bool} (h : a = b) : Ending.returned (.bool a) = .returned (.bool b) := by rw [h]

end Go.Proofs.YtnaeglfochnikaaGreat

namespace Go.Proofs.YtnaeglfochnikaaGreat
set_option linter.unusedVariables false
set_option linter.unusedSimpArgs false
open Go.RowKit

structure OpD where
  at_ : Int
  size : Int
  text : ByteArray

/-- an operation's cells -/
def co (o : OpD) : List Value := [.int .i64 o.at_, .int .i64 o.size, .string o.text]
theorem co_len (o : OpD) : (co o).length = 3 := rfl

/-- whether an operation fits a base of n bytes -/
def fitB (n : Int) (o : OpD) : Bool :=
  if o.size = 0 then decide (o.at_ = 0) && inR o.text.size 1 8 else (decide (o.text.size = 0) && (inR o.size 1 n && inR o.at_ 0 (n - o.size)))
/-- what it makes -/
def outB (base : ByteArray) (o : OpD) : ByteArray := if o.size = 0 then o.text else base.extract o.at_.toNat (o.at_ + o.size).toNat
def catD (base : ByteArray) (ops : List OpD) : ByteArray := ops.foldl (fun s o => s ++ outB base o) ByteArray.empty
def fitAll (base : ByteArray) (ops : List OpD) : Bool := ops.all (fitB base.size)
def okD (base : ByteArray) (ops : List OpD) : Bool := decide (base.size ≤ 8) && decide (ops.length ≤ 8) && fitAll base ops && decide ((catD base ops).size ≤ 8)
def strD (base : ByteArray) (ops : List OpD) : ByteArray := if okD base ops = true then catD base ops else ByteArray.empty

theorem catD_snoc (base : ByteArray) (ops : List OpD) (o : OpD) : catD base (ops ++ [o]) = catD base ops ++ outB base o := by simp [catD]
theorem catD_app_size (base : ByteArray) (ops ops' : List OpD) : (catD base ops).size ≤ (catD base (ops ++ ops')).size := by
  induction ops' generalizing ops with
  | nil => simp
  | cons o ops' ih =>
    have h1 := ih (ops ++ [o])
    rw [catD_snoc, ByteArray.size_append] at h1
    rw [List.append_assoc] at h1
    simp only [List.singleton_append] at h1
    omega
theorem catD_take_size (base : ByteArray) (ops : List OpD) (k : Nat) : (catD base (ops.take k)).size ≤ (catD base ops).size := by
  have := catD_app_size base (ops.take k) (ops.drop k)
  rwa [List.take_append_drop] at this
theorem catD_take_succ (base : ByteArray) {ops : List OpD} {k : Nat} (hk : k < ops.length) : catD base (ops.take (k + 1)) = catD base (ops.take k) ++ outB base ops[k] := by
  rw [List.take_succ_eq_append_getElem hk, catD_snoc]
theorem fitAll_take_succ (base : ByteArray) {ops : List OpD} {k : Nat} (hk : k < ops.length) (h : fitAll base (ops.take k) = true) (hf : fitB base.size ops[k] = true) : fitAll base (ops.take (k + 1)) = true := by
  unfold fitAll at h ⊢
  rw [List.take_succ_eq_append_getElem hk, List.all_append, h]
  simp [hf]
theorem okD_unfit (base : ByteArray) {ops : List OpD} {k : Nat} (hk : k < ops.length) (hf : fitB base.size ops[k] = false) : okD base ops = false := by
  have : fitAll base ops = false := by
    unfold fitAll
    rw [← Bool.not_eq_true, List.all_eq_true]
    intro h
    rw [h _ (List.getElem_mem hk)] at hf; cases hf
  unfold okD; rw [this]; simp
theorem okD_long (base : ByteArray) {ops : List OpD} {k : Nat} (h : 8 < (catD base (ops.take k)).size) : okD base ops = false := by
  have := catD_take_size base ops k
  unfold okD
  rw [show decide ((catD base ops).size ≤ 8) = false from decide_eq_false (by omega)]; simp
theorem okD_big (base : ByteArray) {ops : List OpD} (h : 8 < base.size ∨ 8 < ops.length) : okD base ops = false := by
  unfold okD
  rcases h with h | h
  · rw [show decide (base.size ≤ 8) = false from decide_eq_false (by omega)]; rfl
  · rw [show decide (ops.length ≤ 8) = false from decide_eq_false (by omega)]; simp
theorem okD_yes (base : ByteArray) {ops : List OpD} (h1 : base.size ≤ 8) (h2 : ops.length ≤ 8) (h3 : fitAll base ops = true) (h4 : (catD base ops).size ≤ 8) : okD base ops = true := by
  unfold okD; simp [h1, h2, h3, h4]
theorem strD_no {base : ByteArray} {ops : List OpD} (h : okD base ops = false) : strD base ops = ByteArray.empty := by
  unfold strD; rw [h]; rfl
theorem strD_yes {base : ByteArray} {ops : List OpD} (h : okD base ops = true) : strD base ops = catD base ops := by
  unfold strD; rw [h]; rfl

theorem fitB_zero {n : Int} {o : OpD} (h : o.size = 0) : fitB n o = (decide (o.at_ = 0) && inR o.text.size 1 8) := by unfold fitB; rw [if_pos h]
theorem fitB_copy {n : Int} {o : OpD} (h : ¬ o.size = 0) : fitB n o = (decide (o.text.size = 0) && (inR o.size 1 n && inR o.at_ 0 (n - o.size))) := by unfold fitB; rw [if_neg h]
theorem outB_zero {base : ByteArray} {o : OpD} (h : o.size = 0) : outB base o = o.text := by unfold outB; rw [if_pos h]
theorem outB_copy {base : ByteArray} {o : OpD} (h : ¬ o.size = 0) : outB base o = base.extract o.at_.toNat (o.at_ + o.size).toNat := by unfold outB; rw [if_neg h]

theorem okD_and {base : ByteArray} {ops : List OpD} (h : okD base ops = true) : base.size ≤ 8 ∧ ops.length ≤ 8 ∧ fitAll base ops = true ∧ (catD base ops).size ≤ 8 := by
  unfold okD at h
  simp only [Bool.and_eq_true, decide_eq_true_eq] at h
  exact ⟨h.1.1.1, h.1.1.2, h.1.2, h.2⟩
theorem okD_size {base : ByteArray} {ops : List OpD} (h : okD base ops = true) : (strD base ops).size ≤ 8 := by
  rw [strD_yes h]; exact (okD_and h).2.2.2
theorem okD_fit {base : ByteArray} {ops : List OpD} (h : okD base ops = true) : ∀ o ∈ ops, fitB base.size o = true := by
  have := (okD_and h).2.2.1
  unfold fitAll at this
  rwa [List.all_eq_true] at this
theorem okD_nil {base : ByteArray} {ops : List OpD} (h : okD base ops = true) : okD base [] = true ∧ strD base [] = ByteArray.empty := by
  have h1 : okD base [] = true := okD_yes base (okD_and h).1 (by simp) rfl (by simp [catD])
  exact ⟨h1, by rw [strD_yes h1]; rfl⟩
theorem catD_app (base : ByteArray) (a b : List OpD) : catD base (a ++ b) = catD base a ++ catD base b := by
  induction b generalizing a with
  | nil => simp [catD]
  | cons o b ih =>
    have h1 := ih (a ++ [o])
    rw [List.append_assoc, List.singleton_append] at h1
    rw [h1, catD_snoc]
    have h2 := ih [o]
    have h3 : catD base (o :: b) = catD base [o] ++ catD base b := by
      have e : ∀ (l : List OpD) (s : ByteArray), l.foldl (fun s o => s ++ outB base o) s = s ++ catD base l := by
        intro l
        induction l with
        | nil => intro s; simp [catD]
        | cons x l ih2 =>
          intro s
          have hx := ih2 (ByteArray.empty ++ outB base x)
          simp only [catD, List.foldl_cons] at hx ⊢
          rw [ih2, hx]
          simp [catD, ByteArray.append_assoc]
      simp only [catD, List.foldl_cons, List.foldl_nil]
      rw [e]; rfl
    rw [h3, ByteArray.append_assoc]
    simp [catD]
theorem okD_part {base : ByteArray} {a b : List OpD} (h : okD base (a ++ b) = true) : okD base a = true ∧ okD base b = true ∧ strD base a ++ strD base b = strD base (a ++ b) := by
  obtain ⟨h1, h2, h3, h4⟩ := okD_and h
  unfold fitAll at h3
  rw [List.all_append, Bool.and_eq_true] at h3
  rw [catD_app, ByteArray.size_append] at h4
  rw [List.length_append] at h2
  have ha := okD_yes base h1 (by omega) (ops := a) h3.1 (by omega)
  have hb := okD_yes base h1 (by omega) (ops := b) h3.2 (by omega)
  exact ⟨ha, hb, by rw [strD_yes ha, strD_yes hb, strD_yes h, catD_app]⟩

end Go.Proofs.YtnaeglfochnikaaGreat

namespace Go.Proofs.YtnaeglfochnikaaGreat
set_option linter.unusedVariables false
set_option linter.unusedSimpArgs false
open Go.RowKit

/-- p holds of all numbers below n -/
def allTo (p : Nat → Bool) : Nat → Bool
  | 0 => true
  | n + 1 => allTo p n && p n
theorem allTo_iff (p : Nat → Bool) (n : Nat) : allTo p n = true ↔ ∀ k, k < n → p k = true := by
  induction n with
  | zero => simp [allTo]
  | succ n ih =>
    rw [allTo, Bool.and_eq_true, ih]
    constructor
    · rintro ⟨h1, h2⟩ k hk
      rcases Nat.lt_or_ge k n with h | h
      · exact h1 k h
      · have : k = n := by omega
        subst this; exact h2
    · intro h
      exact ⟨fun k hk => h k (by omega), h n (by omega)⟩
theorem allTo_no {p : Nat → Bool} {n k : Nat} (hk : k < n) (h : p k = false) : allTo p n = false := by
  rw [← Bool.not_eq_true, allTo_iff]
  intro h2
  rw [h2 k hk] at h; cases h
theorem allTo_succ {p : Nat → Bool} {k : Nat} (h : allTo p k = true) (h2 : p k = true) : allTo p (k + 1) = true := by rw [allTo, h, h2]; rfl

structure ObjD where
  kind : Int
  links : List Int
  text : ByteArray

/-- id k is in range and greater than the one before -/
def idAt (xs : List Int) (k : Nat) : Bool := inR (xs.getD k 0) 0 990 && (decide (k = 0) || decide (xs.getD (k - 1) 0 < xs.getD k 0))
def idsB (xs : List Int) : Bool := allTo (idAt xs) xs.length
/-- links are at most four ids in order -/
def linksB (xs : List Int) : Bool := idsB xs && decide (xs.length ≤ 4)
def kindB (kind : Int) (links : Nat) (text : Nat) : Bool :=
  if kind = 1 then decide (links = 0) else if kind = 2 then decide (text = 0) else if kind = 3 then decide (0 < links) else false
def objB (o : ObjD) : Bool := linksB o.links && decide (o.text.size ≤ 8) && kindB o.kind o.links.length o.text.size
def idLinks (n : Int) (xs : List Int) : Int := xs.foldl (fun n l => (n * 613 + l + 1) % 991) n
def idText (n : Int) (xs : List UInt8) : Int := xs.foldl (fun n b => (n * 257 + (b.toNat : Int) + 1) % 991) n
def idB (o : ObjD) : Int := idText (idLinks (100 * o.kind + o.links.length) o.links) o.text.data.toList

theorem objB_and {o : ObjD} (h : objB o = true) : idsB o.links = true ∧ o.links.length ≤ 4 ∧ o.text.size ≤ 8 ∧ (o.kind = 1 ∨ o.kind = 2 ∨ o.kind = 3) := by
  unfold objB linksB at h
  simp only [Bool.and_eq_true, decide_eq_true_eq] at h
  obtain ⟨⟨⟨h1, h2⟩, h3⟩, h4⟩ := h
  refine ⟨h1, h2, h3, ?_⟩
  unfold kindB at h4
  split at h4
  · left; assumption
  · split at h4
    · right; left; assumption
    · split at h4
      · right; right; assumption
      · cases h4
theorem idsB_mem {xs : List Int} (h : idsB xs = true) : ∀ x ∈ xs, 0 ≤ x ∧ x ≤ 990 := by
  intro x hx
  obtain ⟨k, hk, rfl⟩ := List.getElem_of_mem hx
  have := (allTo_iff _ _).1 h k hk
  unfold idAt at this
  rw [Bool.and_eq_true, inR_iff, List.getD_eq_getElem?_getD, List.getElem?_eq_getElem hk] at this
  simpa using this.1
theorem idLinks_bd : ∀ (xs : List Int) (n : Int), (∀ x ∈ xs, 0 ≤ x ∧ x ≤ 990) → 0 ≤ n → 0 ≤ idLinks n xs ∧ (n ≤ 990 → idLinks n xs ≤ 990)
  | [], n, _, h => ⟨h, fun h => h⟩
  | x :: xs, n, hx, h => by
    have h1 := hx x List.mem_cons_self
    have h2 := idLinks_bd xs ((n * 613 + x + 1) % 991) (fun y hy => hx y (List.mem_cons_of_mem _ hy)) (Int.emod_nonneg _ (by omega))
    exact ⟨h2.1, fun _ => h2.2 (by omega)⟩
theorem idText_bd : ∀ (xs : List UInt8) (n : Int), 0 ≤ n → n ≤ 990 → 0 ≤ idText n xs ∧ idText n xs ≤ 990
  | [], n, h, k => ⟨h, k⟩
  | x :: xs, n, h, k => idText_bd xs ((n * 257 + (x.toNat : Int) + 1) % 991) (Int.emod_nonneg _ (by omega)) (by omega)
theorem idLinks_take {xs : List Int} {k : Nat} (hk : k < xs.length) (n : Int) : idLinks n (xs.take (k + 1)) = (idLinks n (xs.take k) * 613 + xs[k] + 1) % 991 := by
  unfold idLinks
  rw [List.take_succ_eq_append_getElem hk, List.foldl_append]; rfl
theorem idText_take {xs : List UInt8} {k : Nat} (hk : k < xs.length) (n : Int) : idText n (xs.take (k + 1)) = (idText n (xs.take k) * 257 + (xs[k].toNat : Int) + 1) % 991 := by
  unfold idText
  rw [List.take_succ_eq_append_getElem hk, List.foldl_append]; rfl
theorem idB_bd {o : ObjD} (h : objB o = true) : 0 ≤ idB o ∧ idB o ≤ 990 := by
  obtain ⟨h1, h2, h3, h4⟩ := objB_and h
  have hm := idsB_mem h1
  have := idLinks_bd o.links (100 * o.kind + o.links.length) hm (by omega)
  have h5 := this.2 (by omega)
  exact idText_bd _ _ this.1 h5

structure PED where
  kind : Int
  links : List Int
  base : Int
  ops : List OpD
def baseAt (ps : List PED) (k : Nat) : Int := (ps.getD k ⟨0, [], -1, []⟩).base
def opsAt (ps : List PED) (k : Nat) : List OpD := (ps.getD k ⟨0, [], -1, []⟩).ops
/-- an entry's depth -/
def depP (ps : List PED) (i : Nat) : Nat := if h : 0 ≤ baseAt ps i ∧ (baseAt ps i).toNat < i then depP ps (baseAt ps i).toNat + 1 else 0
termination_by i
decreasing_by exact h.2
/-- an entry's text -/
def txtP (ps : List PED) (i : Nat) : ByteArray := strD (if h : 0 ≤ baseAt ps i ∧ (baseAt ps i).toNat < i then txtP ps (baseAt ps i).toNat else ByteArray.empty) (opsAt ps i)
termination_by i
decreasing_by exact h.2
/-- the text of an entry's base -/
def btxtP (ps : List PED) (i : Nat) : ByteArray := if 0 ≤ baseAt ps i then txtP ps (baseAt ps i).toNat else ByteArray.empty
def objP (ps : List PED) (i : Nat) : ObjD := ⟨(ps.getD i ⟨0, [], -1, []⟩).kind, (ps.getD i ⟨0, [], -1, []⟩).links, txtP ps i⟩
def baseOk (ps : List PED) (i : Nat) : Bool := inR (baseAt ps i) (-1) ((i : Int) - 1)
def depOk (ps : List PED) (i : Nat) : Bool := decide (depP ps i ≤ 2)
def entOk (ps : List PED) (i : Nat) : Bool := okD (btxtP ps i) (opsAt ps i) && objB (objP ps i)
def linkB (ps : List PED) : Bool := allTo (baseOk ps) ps.length
def packB (ps : List PED) : Bool := decide (ps.length ≤ 16) && linkB ps && allTo (depOk ps) ps.length && allTo (entOk ps) ps.length
def packTo (ps : List PED) (k : Nat) : List ObjD := (List.range k).map (objP ps)
def packL (ps : List PED) : List ObjD := if packB ps = true then packTo ps ps.length else []

theorem baseOk_iff {ps : List PED} {i : Nat} : baseOk ps i = true ↔ -1 ≤ baseAt ps i ∧ baseAt ps i ≤ (i : Int) - 1 := by unfold baseOk; rw [inR_iff]
theorem depP_no {ps : List PED} {i : Nat} (h : baseAt ps i < 0) : depP ps i = 0 := by rw [depP, dif_neg (by omega)]
theorem depP_yes {ps : List PED} {i : Nat} (h : 0 ≤ baseAt ps i) (hk : baseOk ps i = true) : depP ps i = depP ps (baseAt ps i).toNat + 1 := by
  rw [baseOk_iff] at hk
  rw [depP, dif_pos ⟨h, by omega⟩]
theorem txtP_eq {ps : List PED} {i : Nat} (hk : baseOk ps i = true) : txtP ps i = strD (btxtP ps i) (opsAt ps i) := by
  rw [baseOk_iff] at hk
  unfold btxtP
  rw [txtP]
  by_cases h : 0 ≤ baseAt ps i
  · rw [dif_pos ⟨h, by omega⟩, if_pos h]
  · rw [dif_neg (by omega), if_neg h]
theorem depP_le {ps : List PED} (i : Nat) : depP ps i ≤ i := by
  induction i using Nat.strongRecOn with
  | _ i ih =>
    rw [depP]
    split
    · have := ih _ (by rename_i h; exact h.2)
      omega
    · omega
theorem packB_and {ps : List PED} (h : packB ps = true) : ps.length ≤ 16 ∧ linkB ps = true ∧ allTo (depOk ps) ps.length = true ∧ allTo (entOk ps) ps.length = true := by
  unfold packB at h
  simp only [Bool.and_eq_true, decide_eq_true_eq] at h
  exact ⟨h.1.1.1, h.1.1.2, h.1.2, h.2⟩
theorem packB_big {ps : List PED} (h : 16 < ps.length) : packB ps = false := by
  unfold packB
  rw [show decide (ps.length ≤ 16) = false from decide_eq_false (by omega)]; rfl
theorem packB_link {ps : List PED} (h : linkB ps = false) : packB ps = false := by unfold packB; rw [h]; simp
theorem packB_dep {ps : List PED} {k : Nat} (hk : k < ps.length) (h : depOk ps k = false) : packB ps = false := by unfold packB; rw [allTo_no hk h]; simp
theorem packB_ent {ps : List PED} {k : Nat} (hk : k < ps.length) (h : entOk ps k = false) : packB ps = false := by unfold packB; rw [allTo_no hk h]; simp
theorem packB_yes {ps : List PED} (h1 : ps.length ≤ 16) (h2 : linkB ps = true) (h3 : allTo (depOk ps) ps.length = true) (h4 : allTo (entOk ps) ps.length = true) : packB ps = true := by unfold packB; simp [h1, h2, h3, h4]
theorem packL_no {ps : List PED} (h : packB ps = false) : packL ps = [] := by unfold packL; rw [h]; rfl
theorem packL_yes {ps : List PED} (h : packB ps = true) : packL ps = packTo ps ps.length := by unfold packL; rw [if_pos h]
theorem packTo_len (ps : List PED) (k : Nat) : (packTo ps k).length = k := by unfold packTo; simp
theorem packTo_succ (ps : List PED) (k : Nat) : packTo ps (k + 1) = packTo ps k ++ [objP ps k] := by unfold packTo; rw [List.range_succ, List.map_append]; rfl
theorem packTo_get {ps : List PED} {k i : Nat} (hi : i < k) : (packTo ps k)[i]'(by rw [packTo_len]; exact hi) = objP ps i := by unfold packTo; simp
theorem packL_obj {ps : List PED} : ∀ o ∈ packL ps, objB o = true := by
  intro o ho
  unfold packL at ho
  split at ho
  · rename_i h
    obtain ⟨-, -, -, h4⟩ := packB_and h
    unfold packTo at ho
    obtain ⟨i, hi, rfl⟩ := List.mem_map.1 ho
    have := (allTo_iff _ _).1 h4 i (List.mem_range.1 hi)
    unfold entOk at this
    rw [Bool.and_eq_true] at this
    exact this.2
  · cases ho
/-- a pack's sum -/
def sumP (n : Int) (os : List ObjD) : Int := os.foldl (fun n o => (n * 613 + idB o + 1) % 991) n
def packSum (ps : List PED) : Int := if packB ps = true then sumP ps.length (packL ps) else -1
theorem sumP_take {xs : List ObjD} {k : Nat} (hk : k < xs.length) (n : Int) : sumP n (xs.take (k + 1)) = (sumP n (xs.take k) * 613 + idB xs[k] + 1) % 991 := by
  unfold sumP
  rw [List.take_succ_eq_append_getElem hk, List.foldl_append]; rfl
theorem sumP_bd : ∀ (xs : List ObjD) (n : Int), (∀ x ∈ xs, objB x = true) → 0 ≤ n → n ≤ 990 → 0 ≤ sumP n xs ∧ sumP n xs ≤ 990
  | [], n, _, h, k => ⟨h, k⟩
  | x :: xs, n, hx, h, k => by
    have := idB_bd (hx x List.mem_cons_self)
    exact sumP_bd xs ((n * 613 + idB x + 1) % 991) (fun y hy => hx y (List.mem_cons_of_mem _ hy)) (Int.emod_nonneg _ (by omega)) (by omega)

end Go.Proofs.YtnaeglfochnikaaGreat

namespace Go.Proofs.YtnaeglfochnikaaGreat
set_option linter.unusedVariables false
set_option linter.unusedSimpArgs false
open Go.RowKit

set_option maxHeartbeats 400000 in
theorem inRange_any (n a b : Int) (w : World) :
    Calls Tryz.prog 83 #[.int .i64 n, .int .i64 a, .int .i64 b] w fun e w' => e = .returned (.bool (inR n a b)) ∧ w = w' := by
  go_enter Tryz.func83, Tryz.ntmps83
  go_wp2
  all_goals go_ret
  · exact ⟨by simp [inR, *], rfl⟩
  · have h : ¬ a ≤ n := by omega
    exact ⟨by simp [inR, h], rfl⟩

set_option maxHeartbeats 400000 in
theorem l6In_any (n a b : Int) (w : World) :
    Calls Tryz.prog 113 #[.int .i64 n, .int .i64 a, .int .i64 b] w fun e w' => e = .returned (.bool (inR n a b)) ∧ w = w' := by
  go_enter Tryz.func113, Tryz.ntmps113
  go_wp2
  all_goals go_ret
  · exact ⟨by simp [inR, *], rfl⟩
  · have h : ¬ a ≤ n := by omega
    exact ⟨by simp [inR, h], rfl⟩

end Go.Proofs.YtnaeglfochnikaaGreat

namespace Go.Proofs.YtnaeglfochnikaaGreat
set_option linter.unusedVariables false
set_option linter.unusedSimpArgs false
open Go.RowKit

theorem fl_op {w : World} {lo hi n k : Nat} {A : Option Addr} {xs : List OpD} (h : Fl co w lo hi A n xs) (hk : k < n) :
    ∃ (b o : Nat) (hl : k < xs.length), A = some ⟨b, o, none⟩ ∧ lo ≤ b ∧ b < hi ∧ w.cell? ⟨b, o + k * 3, none⟩ = some (.int .i64 xs[k].at_) ∧
      w.cell? ⟨b, o + k * 3 + 1, none⟩ = some (.int .i64 xs[k].size) ∧ w.cell? ⟨b, o + k * 3 + 2, none⟩ = some (.string xs[k].text) := by
  obtain ⟨b, o, hl, rfl, g1, g2, hc⟩ := h.at_ co_len (by omega) hk
  exact ⟨b, o, hl, rfl, g1, g2, hc 0 _ rfl, hc 1 _ rfl, hc 2 _ rfl⟩

theorem fitB_spec {n : Int} {o : OpD} (h : ¬ o.size = 0) : fitB n o = (decide (o.text.size = 0) && inR o.at_ 0 (n - 1) && inR o.size 1 (n - o.at_)) := by
  rw [fitB_copy h, Bool.and_assoc]
  congr 1
  rw [Bool.eq_iff_iff]
  simp only [Bool.and_eq_true, inR_iff]
  omega

end Go.Proofs.YtnaeglfochnikaaGreat
