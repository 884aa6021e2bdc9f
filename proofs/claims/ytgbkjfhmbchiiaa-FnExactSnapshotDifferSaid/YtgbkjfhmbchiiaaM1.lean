/-
  Plain words for memory, used by all walks of this seat: a slice that reads as a list of flat elements, and how such a reading is kept when other memory turns. No condition.
  What refs and updates are, in plain Lean: valid refs, valid updates, updates that fit, refs that are set, refs that differ. No program in sight.
  What parts, transactions and coordinators are, in plain Lean: which are valid. No program in sight.
  The walks of slices.Index and slices.Contains at a slice of ints: the least place at which a number stands, or -1. No condition.
-/
import Derived.Test.YtgbkjfhmbchiiaaRows
import Derived.WalkKit
import Derived.Lib.Hide
import Derived.WalkSpells
import Derived.WalkLawsBesides
import Derived.Deep.Draws
import Derived.Deep.QuietTactic
namespace Go.Proofs.Ytgbkjfhmbchiiaa
set_option linter.unusedVariables false
set_option linter.unusedSimpArgs false
open Go.RowKit

def inR (n a b : Int) : Bool := decide (a ≤ n) && decide (n ≤ b)

theorem inR_iff (n a b : Int) : inR n a b = true ↔ a ≤ n ∧ n ≤ b := by simp [inR]
theorem inR_no (n a b : Int) : inR n a b = false ↔ (n < a ∨ b < n) := by
  rw [← Bool.not_eq_true, inR_iff]; omega

/-- the cells cs lie in a row behind the address A, in a block from lo on and below hi -/
def Rd (w : World) (lo hi : Nat) (A : Option Addr) (cs : List Value) : Prop :=
  cs ≠ [] → ∃ b o, A = some ⟨b, o, none⟩ ∧ lo ≤ b ∧ b < hi ∧ ∀ j u, cs[j]? = some u → w.cell? ⟨b, o + j, none⟩ = some u

section
variable {w w' : World} {lo hi lo' hi' : Nat} {A : Option Addr} {cs : List Value}
theorem Rd.nil (w : World) (lo hi : Nat) (A : Option Addr) : Rd w lo hi A [] := fun h => absurd rfl h
theorem Rd.keep (h : Rd w lo hi A cs) (hk : ∀ p : Addr, lo ≤ p.block → p.block < hi → w'.cell? p = w.cell? p) : Rd w' lo hi A cs := fun hn => by
  obtain ⟨b, o, e, h1, h2, hc⟩ := h hn
  exact ⟨b, o, e, h1, h2, fun j u hu => (hk ⟨b, o + j, none⟩ h1 h2).trans (hc j u hu)⟩
theorem Rd.more (h : Rd w lo hi A cs) (h1 : lo' ≤ lo) (h2 : hi ≤ hi') : Rd w lo' hi' A cs := fun hn => by
  obtain ⟨b, o, e, g1, g2, hc⟩ := h hn
  exact ⟨b, o, e, Nat.le_trans h1 g1, Nat.lt_of_lt_of_le g2 h2, hc⟩
theorem Rd.below {C : Nat} (h : Rd w lo hi A cs) (hb : Below C w w') (hB : hi ≤ C) : Rd w' lo hi A cs := h.keep fun _ _ hp => hb.cell (Nat.lt_of_lt_of_le hp hB)
theorem Rd.drew (h : Rd w lo hi A cs) : Rd w.drew lo hi A cs := h
theorem Rd.drewN (h : Rd w lo hi A cs) (k : Nat) : Rd (w.drewN k) lo hi A cs := h
theorem Rd.alloc (h : Rd w lo hi A cs) (hB : hi ≤ w.heap.size) (o : Obj) : Rd (w.alloc o) lo hi A cs := h.keep fun p _ hp => World.cell?_alloc_lt w o p (by omega)
theorem Rd.setCell (h : Rd w lo hi A cs) {p : Addr} (hB : p.block < lo ∨ hi ≤ p.block) (u : Value) : Rd (w.setCell p u) lo hi A cs :=
  h.keep fun q g1 g2 => World.cell?_setCell_other w p q u (fun e => by subst e; omega)
theorem Rd.grown (h : Rd w lo hi A cs) {row : Option Nat} (hg : w.grownBy w' row) (hB : hi ≤ w.heap.size) (hr : ∀ g, row = some g → g < lo ∨ hi ≤ g) : Rd w' lo hi A cs :=
  h.keep fun p g1 g2 => World.cell?_of_block (hg.block p.block (by omega) (fun e => by have := hr _ e.symm; omega))
theorem Rd.of_own {base size n : Nat} {e : TypeId} {v : Value} (h : w.ownsRow base e size v n cs) : ∃ A c, v = .slice A n c ∧ n ≤ c ∧ c ≤ maxLen ∧ Rd w base w.heap.size A cs := by
  have h0 := h
  obtain ⟨hl, h⟩ := h
  rcases h with ⟨rfl, rfl⟩ | ⟨g, cap, cur, rfl, hb, hh, hn, hm, hs, ht⟩
  · have : cs = [] := List.eq_nil_of_length_eq_zero (by simpa using hl)
    subst this
    exact ⟨_, _, rfl, Nat.le_refl _, Nat.zero_le _, Rd.nil _ _ _ _⟩
  · refine ⟨_, _, rfl, hn, hm, fun _ => ⟨g, 0, rfl, hb, (h0.lt g rfl).2, fun j u hu => ?_⟩⟩
    have := h0.cells (g := g) rfl j u hu
    have e2 : (⟨g, 0, none⟩ : Addr).add j = ⟨g, 0 + j, none⟩ := by
      unfold Addr.add
      by_cases hj : j = 0 <;> simp [hj]
    rw [← e2]; exact this
end

/-- each element's cells, one behind the other -/
theorem flat_len {α : Type} (f : α → List Value) (m : Nat) (hf : ∀ x, (f x).length = m) (xs : List α) : (xs.flatMap f).length = xs.length * m := by
  induction xs with
  | nil => simp
  | cons x xs ih => simp [hf, ih, Nat.add_mul, Nat.add_comm]

theorem flat_get {α : Type} (f : α → List Value) (m : Nat) (hf : ∀ x, (f x).length = m) (xs : List α) : ∀ (k : Nat) (hk : k < xs.length) (j : Nat), j < m →
    (xs.flatMap f)[k * m + j]? = (f xs[k])[j]? := by
  induction xs with
  | nil => intro k hk; simp at hk
  | cons x xs ih =>
    intro k hk j hj
    rw [List.flatMap_cons]
    rcases k with _ | k
    · rw [List.getElem?_append_left (by rw [hf]; omega)]; simp
    · have e : (k + 1) * m + j = (f x).length + (k * m + j) := by rw [hf, Nat.add_mul]; omega
      rw [e, List.getElem?_append_right (by omega), Nat.add_sub_cancel_left]
      simpa using ih k (by simpa using hk) j hj

/-- 'xs' is what the slice (A, n) reads as: flat elements of m cells each -/
def Fl {α : Type} (f : α → List Value) (w : World) (lo hi : Nat) (A : Option Addr) (n : Nat) (xs : List α) : Prop := xs.length = n ∧ Rd w lo hi A (xs.flatMap f)

section
variable {α : Type} {f : α → List Value} {w w' : World} {lo hi lo' hi' C n : Nat} {A : Option Addr} {xs : List α}
theorem Fl.nil (f : α → List Value) (w : World) (lo hi : Nat) (A : Option Addr) : Fl f w lo hi A 0 [] := ⟨rfl, Rd.nil _ _ _ _⟩
theorem Fl.below (h : Fl f w lo hi A n xs) (hb : Below C w w') (hB : hi ≤ C) : Fl f w' lo hi A n xs := ⟨h.1, h.2.below hb hB⟩
theorem Fl.more (h : Fl f w lo hi A n xs) (h1 : lo' ≤ lo) (h2 : hi ≤ hi') : Fl f w lo' hi' A n xs := ⟨h.1, h.2.more h1 h2⟩
theorem Fl.drewN (h : Fl f w lo hi A n xs) (k : Nat) : Fl f (w.drewN k) lo hi A n xs := h
theorem Fl.alloc (h : Fl f w lo hi A n xs) (hB : hi ≤ w.heap.size) (o : Obj) : Fl f (w.alloc o) lo hi A n xs := ⟨h.1, h.2.alloc hB o⟩
theorem Fl.grown (h : Fl f w lo hi A n xs) {row : Option Nat} (hg : w.grownBy w' row) (hB : hi ≤ w.heap.size) (hr : ∀ g, row = some g → g < lo ∨ hi ≤ g) : Fl f w' lo hi A n xs := ⟨h.1, h.2.grown hg hB hr⟩
theorem Fl.setCell (h : Fl f w lo hi A n xs) {p : Addr} (hB : p.block < lo ∨ hi ≤ p.block) (u : Value) : Fl f (w.setCell p u) lo hi A n xs := ⟨h.1, h.2.setCell hB u⟩
theorem Fl.at_ {m : Nat} (h : Fl f w lo hi A n xs) (hf : ∀ x, (f x).length = m) (hm : 0 < m) {k : Nat} (hk : k < n) :
    ∃ (b o : Nat) (hl : k < xs.length), A = some ⟨b, o, none⟩ ∧ lo ≤ b ∧ b < hi ∧ ∀ j u, (f xs[k])[j]? = some u → w.cell? ⟨b, o + k * m + j, none⟩ = some u := by
  obtain ⟨h1, h2⟩ := h
  have hl : k < xs.length := by omega
  have hne : xs.flatMap f ≠ [] := by
    intro e
    have := flat_len f m hf xs
    rw [e] at this
    have h0 : 0 < xs.length * m := Nat.mul_pos (by omega) hm
    simp at this; omega
  obtain ⟨b, o, rfl, g1, g2, hc⟩ := h2 hne
  refine ⟨b, o, hl, rfl, g1, g2, fun j u hu => ?_⟩
  have hj : j < m := by
    have := List.getElem?_eq_some_iff.1 hu
    obtain ⟨hj, _⟩ := this
    rw [hf] at hj; exact hj
  have := hc (k * m + j) u (by rw [flat_get f m hf xs k hl j hj]; exact hu)
  rwa [← Nat.add_assoc] at this
end

/-- an int's cell -/
def ci (x : Int) : List Value := [.int .i64 x]
theorem ci_len (x : Int) : (ci x).length = 1 := rfl
theorem flat_ci (xs : List Int) : xs.flatMap ci = xs.map (Value.int .i64) := by
  induction xs with
  | nil => rfl
  | cons x xs ih => simp [ci, ih]

abbrev Ints (w : World) (lo hi : Nat) (A : Option Addr) (n : Nat) (xs : List Int) : Prop := Fl ci w lo hi A n xs
theorem Fl.int {w : World} {lo hi n : Nat} {A : Option Addr} {xs : List Int} (h : Ints w lo hi A n xs) {k : Nat} (hk : k < n) :
    ∃ (b o : Nat) (hl : k < xs.length), A = some ⟨b, o, none⟩ ∧ lo ≤ b ∧ b < hi ∧ w.cell? ⟨b, o + k, none⟩ = some (.int .i64 xs[k]) := by
  obtain ⟨b, o, hl, rfl, g1, g2, hc⟩ := h.at_ ci_len (by omega) hk
  refine ⟨b, o, hl, rfl, g1, g2, ?_⟩
  have := hc 0 _ rfl
  simpa using this

theorem addr_ne {b g o o' : Nat} (h : b ≠ g) : (⟨b, o, none⟩ : Addr) ≠ ⟨g, o', none⟩ := fun e => h (congrArg Addr.block e)

/-- behind a call that turned nothing below the heap's old size -/
theorem bcell {W w1 : World} {B : Nat} (hb : Below B W w1) : (∀ b o, b < B → w1.cell? ⟨b, o, none⟩ = W.cell? ⟨b, o, none⟩) ∧ (∀ b o, b < B → w1.frozen? ⟨b, o, none⟩ = W.frozen? ⟨b, o, none⟩) :=
  ⟨fun b o h => hb.cell (p := ⟨b, o, none⟩) h, fun b o h => hb.frozen (p := ⟨b, o, none⟩) h⟩
theorem below_drewN {B : Nat} {a w : World} (h : Below B a w) (n : Nat) : Below B a (w.drewN n) := ⟨h.os, h.tape, h.output, h.size, h.block⟩

/-- a callee that leaves the world alone, met inside a region that draws its order -/
theorem quiet_left {P : Program} {f : FuncId} {args : Array Value} {w : World} {n : Nat} {v : Value}
    (h : Calls P f args (w.drewN n) fun e w' => e = .returned v ∧ w.drewN n = w') : Calls P f args (w.drewN n) fun e w'' => e = .returned v ∧ ∃ m, w'' = w.drewN m :=
  h.mono fun _ _ ⟨he, hm⟩ => ⟨he, n, hm.symm⟩
theorem quiet_add_left {P : Program} {f : FuncId} {args : Array Value} {w : World} {a n : Nat} {v : Value}
    (h : Calls P f args (w.drewN (a + n)) fun e w' => e = .returned v ∧ w.drewN (a + n) = w') :
    Calls P f args (w.drewN (a + n)) fun e w'' => e = .returned v ∧ ∃ m, w'' = w.drewN (a + m) :=
  h.mono fun _ _ ⟨he, hm⟩ => ⟨he, n, hm.symm⟩

theorem bytes_nil (t : ByteArray) : t.toList = [] ↔ t.size = 0 := by
  rw [ByteArray.toList_eq, ← List.length_eq_zero_iff]; rfl

theorem ret_eq {v v' : Value} (h : v = v') : Ending.returned v = .returned v' := by rw [h]
theorem ret_sb {s s' : ByteArray} {b b' : Bool} (hs : s = s') (h : b = b') : Ending.returned (.tuple #[.string s, .bool b]) = .returned (.tuple #[.string s', .bool b']) := by rw [hs, h]
theorem ret_int {a b : Int} (h : a = b) : Ending.returned (.int .i64 a) = .returned (.int .i64 b) := by rw [h]
theorem ret_bool {a b : Bool} (h : a = b) : Ending.returned (.bool a) = .returned (.bool b) := by rw [h]

end Go.Proofs.Ytgbkjfhmbchiiaa

namespace Go.Proofs.Ytgbkjfhmbchiiaa
set_option linter.unusedVariables false
set_option linter.unusedSimpArgs false
open Go.RowKit

structure Upd where
  ref : Int
  old : Int
  new_ : Int
  deriving DecidableEq

/-- an update's cells -/
def cu (u : Upd) : List Value := [.int .i64 u.ref, .int .i64 u.old, .int .i64 u.new_]
theorem cu_len (u : Upd) : (cu u).length = 3 := rfl

def rid (n : Int) : Bool := inR n (-1) 990
def ridsB (xs : List Int) : Bool := xs.all rid
def refsB (xs : List Int) : Bool := decide (xs.length = 4) && ridsB xs
/-- one update alone -/
def uokB (u : Upd) : Bool := inR u.ref 0 3 && rid u.old && rid u.new_ && !decide (u.old = u.new_)
/-- each update alone, and refs in strict order behind 'prev' -/
def updsGo : Option Int → List Upd → Bool
  | _, [] => true
  | p, u :: us => uokB u && (match p with | none => true | some q => decide (q < u.ref)) && updsGo (some u.ref) us
def updsB (us : List Upd) : Bool := updsGo none us && decide (0 < us.length)
def getR (xs : List Int) (r : Int) : Int := xs.getD r.toNat 0
def fitsR (xs : List Int) (us : List Upd) : Bool := us.all fun u => decide (getR xs u.ref = u.old)
def setR (xs : List Int) (us : List Upd) : List Int := us.foldl (fun r u => r.set u.ref.toNat u.new_) xs
/-- what RefsApply returns: refs, and whether they were turned -/
def applyL (xs : List Int) (us : List Upd) : List Int := if refsB xs = true ∧ updsB us = true then (if fitsR xs us = true then setR xs us else xs) else []
def applyB (xs : List Int) (us : List Upd) : Bool := refsB xs && updsB us && fitsR xs us
def differAt (a b : List Int) (r : Nat) : List Upd := if a.getD r 0 = b.getD r 0 then [] else [⟨r, a.getD r 0, b.getD r 0⟩]
def differL (a b : List Int) : List Upd := if refsB a = true ∧ refsB b = true then (List.range 4).flatMap (differAt a b) else []
def crossB (a b : List Upd) : Bool := updsB a && updsB b && a.any fun u => b.any fun v => decide (u.ref = v.ref)

end Go.Proofs.Ytgbkjfhmbchiiaa

namespace Go.Proofs.Ytgbkjfhmbchiiaa
set_option linter.unusedVariables false
set_option linter.unusedSimpArgs false
open Go.RowKit

structure PartD where
  shard : Int
  us : List Upd
structure TxnD where
  parts : List PartD
  votes : List Int
  dec : Int
structure CoordD where
  txns : List TxnD
  order : List Int

/-- 'for all k below n' -/
def allTo (p : Nat → Bool) : Nat → Bool
  | 0 => true
  | n + 1 => allTo p n && p n
theorem allTo_iff (p : Nat → Bool) (n : Nat) : allTo p n = true ↔ ∀ k, k < n → p k = true := by
  induction n with
  | zero => simp [allTo]
  | succ n ih =>
    simp only [allTo, Bool.and_eq_true, ih]
    constructor
    · rintro ⟨h1, h2⟩ k hk
      rcases Nat.lt_or_ge k n with h | h
      · exact h1 k h
      · obtain rfl : k = n := by omega
        exact h2
    · intro h
      exact ⟨fun k hk => h k (by omega), h n (by omega)⟩
theorem allTo_no {p : Nat → Bool} {n k : Nat} (hk : k < n) (h : p k = false) : allTo p n = false := by
  rw [← Bool.not_eq_true, allTo_iff]
  intro hh
  rw [hh k hk] at h; cases h
theorem allTo_succ {p : Nat → Bool} {k : Nat} (h : allTo p k = true) (h2 : p k = true) : allTo p (k + 1) = true := by rw [allTo, h, h2]; rfl

/-- part k, behind the one ahead of it -/
def partAt (ps : List PartD) (k : Nat) : Bool :=
  inR (ps.getD k ⟨0, []⟩).shard 0 2 && updsB (ps.getD k ⟨0, []⟩).us && (decide (k = 0) || decide ((ps.getD (k - 1) ⟨0, []⟩).shard < (ps.getD k ⟨0, []⟩).shard))
def partsB (ps : List PartD) : Bool := allTo (partAt ps) ps.length && decide (0 < ps.length)
theorem part_at {ps : List PartD} {k : Nat} (h : k < ps.length) : partAt ps k = (inR ps[k].shard 0 2 && updsB ps[k].us && (decide (k = 0) || decide ((ps.getD (k - 1) ⟨0, []⟩).shard < ps[k].shard))) := by
  unfold partAt
  rw [List.getD_eq_getElem?_getD, List.getElem?_eq_getElem h]; rfl
theorem partsB_and {ps : List PartD} (h : partsB ps = true) : (∀ k, k < ps.length → partAt ps k = true) ∧ 0 < ps.length := by
  unfold partsB at h
  simp only [Bool.and_eq_true, decide_eq_true_eq] at h
  exact ⟨(allTo_iff _ _).1 h.1, h.2⟩
theorem partsB_asc {ps : List PartD} (h : partsB ps = true) : ∀ k, k < ps.length → (k : Int) ≤ (ps.getD k ⟨0, []⟩).shard ∧ (ps.getD k ⟨0, []⟩).shard ≤ 2 := by
  intro k
  induction k with
  | zero =>
    intro hk
    have := (partsB_and h).1 0 hk
    unfold partAt at this
    simp only [Bool.and_eq_true, inR_iff] at this
    omega
  | succ k ih =>
    intro hk
    have h1 := (partsB_and h).1 (k + 1) hk
    have h2 := ih (by omega)
    unfold partAt at h1
    simp only [Bool.and_eq_true, Bool.or_eq_true, decide_eq_true_eq, inR_iff, Nat.add_sub_cancel] at h1
    omega
/-- valid parts are at most three -/
theorem partsB_len {ps : List PartD} (h : partsB ps = true) : ps.length ≤ 3 := by
  rcases Nat.lt_or_ge 3 ps.length with hl | hl
  · have := partsB_asc h 3 hl; omega
  · exact hl

/-- a vote -/
def voteB (v : Int) : Bool := inR v (-1) 1
def cnt1 (v : Int) (vs : List Int) : Nat := vs.countP (fun x => decide (x = v))
/-- the decision fits the votes -/
def decB (d : Int) (vs : List Int) : Bool :=
  if d = 2 then decide (cnt1 1 vs = vs.length) else if d = 3 then decide (cnt1 1 vs < vs.length) else if d = 0 then decide (cnt1 (-1) vs = 0) && decide (cnt1 1 vs < vs.length) else false
def txnB (t : TxnD) : Bool := partsB t.parts && decide (t.votes.length = t.parts.length) && t.votes.all voteB && decB t.dec t.votes
theorem txnB_and {t : TxnD} (h : txnB t = true) : partsB t.parts = true ∧ t.votes.length = t.parts.length ∧ t.votes.all voteB = true ∧ decB t.dec t.votes = true := by
  unfold txnB at h
  simp only [Bool.and_eq_true, decide_eq_true_eq] at h
  exact ⟨h.1.1.1, h.1.1.2, h.1.2, h.2⟩
theorem cnt_sum (vs : List Int) : cnt1 1 vs + cnt1 (-1) vs + cnt1 0 vs ≤ vs.length ∧ (cnt1 1 vs + cnt1 (-1) vs + cnt1 0 vs = vs.length ↔ vs.all voteB = true) := by
  induction vs with
  | nil => simp [cnt1]
  | cons v vs ih =>
    obtain ⟨h1, h2⟩ := ih
    unfold cnt1 at h1 h2 ⊢
    simp only [List.countP_cons, List.length_cons, List.all_cons, Bool.and_eq_true, voteB, inR_iff, decide_eq_true_eq]
    have key : (if v = 1 then 1 else 0) + (if v = -1 then 1 else 0) + (if v = 0 then (1 : Nat) else 0) = (if -1 ≤ v ∧ v ≤ 1 then 1 else 0) := by
      by_cases a : v = 1
      · subst a; simp
      · by_cases b : v = -1
        · subst b; simp
        · by_cases c : v = 0
          · subst c; simp
          · rw [if_neg a, if_neg b, if_neg c, if_neg (by omega)]
    by_cases hv : -1 ≤ v ∧ v ≤ 1
    · rw [if_pos hv] at key
      refine ⟨by omega, ?_⟩
      rw [← h2]
      constructor
      · intro h; exact ⟨hv, by omega⟩
      · rintro ⟨-, h⟩; omega
    · rw [if_neg hv] at key
      refine ⟨by omega, ?_⟩
      constructor
      · intro h; omega
      · rintro ⟨h, -⟩; exact absurd h hv

/-- transaction k is committed -/
def comAt (ts : List TxnD) (k : Nat) : Bool := decide ((ts.getD k ⟨[], [], 0⟩).dec = 2)
/-- the numbers of the committed transactions -/
def comms (ts : List TxnD) : List Int := ((List.range ts.length).filter (comAt ts)).map fun (k : Nat) => (k : Int)
def commTo (ts : List TxnD) (k : Nat) : List Int := ((List.range k).filter (comAt ts)).map fun (k : Nat) => (k : Int)
theorem commTo_succ (ts : List TxnD) (k : Nat) : commTo ts (k + 1) = if comAt ts k = true then commTo ts k ++ [(k : Int)] else commTo ts k := by
  unfold commTo
  rw [List.range_succ, List.filter_append, List.map_append]
  by_cases h : comAt ts k = true
  · rw [if_pos h]; simp [h]
  · rw [if_neg h]; simp [h]
/-- a coordinator is valid: the order is a row of the committed ones, in any order -/
def coordB (c : CoordD) : Bool := c.txns.all txnB && decide (c.txns.length ≤ 12) && decide (c.order.mergeSort (fun x y => decide (x ≤ y)) = comms c.txns)

end Go.Proofs.Ytgbkjfhmbchiiaa

namespace Go.Proofs.Ytgbkjfhmbchiiaa
set_option linter.unusedVariables false
set_option linter.unusedSimpArgs false
open Go.RowKit

def hasB (x : Int) (xs : List Int) : Bool := decide (x ∈ xs)
def idxI (x : Int) (xs : List Int) : Int := if x ∈ xs then (xs.idxOf x : Int) else -1

theorem idxI_ge (x : Int) (xs : List Int) : decide (0 ≤ idxI x xs) = hasB x xs := by
  unfold idxI hasB
  by_cases h : x ∈ xs <;> simp [h]

theorem take_mem_succ {x : Int} {xs : List Int} {k : Nat} (hl : k < xs.length) (h : x ∉ xs.take k) (hne : ¬ xs[k] = x) : x ∉ xs.take (k + 1) := by
  rw [List.take_succ_eq_append_getElem hl]
  simp only [List.mem_append, List.mem_singleton, not_or]
  exact ⟨h, fun e => hne e.symm⟩
theorem idxI_at {x : Int} {xs : List Int} {k : Nat} (hl : k < xs.length) (h : x ∉ xs.take k) (he : xs[k] = x) : idxI x xs = k := by
  have hm : x ∈ xs := by rw [← he]; exact List.getElem_mem hl
  unfold idxI
  rw [if_pos hm]
  have e : xs = xs.take k ++ xs[k] :: xs.drop (k + 1) := by
    rw [← List.drop_eq_getElem_cons hl]; exact (List.take_append_drop k xs).symm
  have : xs.idxOf x = k := by
    rw [e, List.idxOf_append, if_neg h, he, List.idxOf_cons_self, List.length_take]
    omega
  rw [this]
theorem idxI_none {x : Int} {xs : List Int} {n : Nat} (hl : xs.length = n) (h : x ∉ xs.take n) : idxI x xs = -1 := by
  unfold idxI
  rw [List.take_of_length_le (by omega)] at h
  rw [if_neg h]
theorem hasB_at {x : Int} {xs : List Int} {k : Nat} (hl : k < xs.length) (he : xs[k] = x) : hasB x xs = true := by
  unfold hasB; rw [decide_eq_true_eq, ← he]; exact List.getElem_mem hl
theorem hasB_none {x : Int} {xs : List Int} {n : Nat} (hl : xs.length = n) (h : x ∉ xs.take n) : hasB x xs = false := by
  unfold hasB; rw [List.take_of_length_le (by omega)] at h; simpa using h

set_option maxHeartbeats 400000 in
theorem index_any (A : Option Addr) (n c : Nat) (xs : List Int) (x : Int) (w : World) (lo hi : Nat) (hn : n ≤ 9223372036854775807) (h : Ints w lo hi A n xs) :
    Calls Try.prog 27 #[.slice A n c, .int .i64 x] w fun e w' => e = .returned (.int .i64 (idxI x xs)) ∧ w = w' := by
  have HI := Lib.hid h
  clear h
  go_enter Try.func27, Try.ntmps27
  go_wp2
  go_loop [8] (fun i => ∃ k : Nat, k ≤ n ∧ i = .int .i64 k ∧ x ∉ xs.take k) (fun i => n - (intOf i).toNat)
  case atStart => exact ⟨0, Nat.zero_le _, rfl, by simp⟩
  case round =>
    obtain ⟨k, hk, rfl, hx⟩ := hrel
    by_cases hlt : k < n
    · obtain ⟨b, o, hl, rfl, _, _, hc⟩ := HI.out.int hlt
      by_cases he : xs[k] = x
      · have hd : (x == xs[k]) = true := by simp [he]
        go_wp2
        go_ret
        exact ⟨ret_int (idxI_at hl hx he).symm, rfl⟩
      · have hd : (x == xs[k]) = false := by simp [beq_eq_false_iff_ne]; exact fun e => he e.symm
        have hx' := take_mem_succ hl hx he
        go_wp2
        exact ⟨⟨k + 1, by omega, by go_num, hx'⟩, by simp [intOf]; omega⟩
    · have hkn : k = n := by omega
      subst hkn
      go_wp2
      go_ret
      exact ⟨ret_int (idxI_none HI.out.1 hx).symm, rfl⟩

end Go.Proofs.Ytgbkjfhmbchiiaa
