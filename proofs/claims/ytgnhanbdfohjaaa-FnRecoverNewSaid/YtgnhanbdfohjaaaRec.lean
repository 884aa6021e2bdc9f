/-
  Records in memory: rows of updates and rows of records that lie in blocks from 'lo' on, read as plain lists, and how such a reading is kept. No condition.
-/
import Derived.Test.YtgnhanbdfohjaaaShardP
import Derived.Test.YtgnhanbdfohjaaaFill
namespace Go.Proofs.Ytgnhanbdfohjaaa
set_option linter.unusedVariables false
set_option linter.unusedSimpArgs false
open Go.RowKit

/-- flat elements in blocks from lo on -/
def FlH {α : Type} (f : α → List Value) (w : World) (lo : Nat) (A : Option Addr) (n : Nat) (xs : List α) : Prop := Fl f w lo w.heap.size A n xs
section
variable {α : Type} {f : α → List Value} {w w' : World} {lo lo' C n : Nat} {A : Option Addr} {xs : List α}
theorem FlH.below (h : FlH f w lo A n xs) (hb : Below C w w') (hC : w.heap.size ≤ C) (hs : w.heap.size ≤ w'.heap.size) : FlH f w' lo A n xs := (Fl.below h hb hC).more (Nat.le_refl _) hs
theorem FlH.bel (h : FlH f w lo A n xs) (hb : Below w.heap.size w w') : FlH f w' lo A n xs := h.below hb (Nat.le_refl _) hb.size
theorem FlH.drewN (h : FlH f w lo A n xs) (k : Nat) : FlH f (w.drewN k) lo A n xs := h
theorem FlH.alloc (h : FlH f w lo A n xs) (o : Obj) : FlH f (w.alloc o) lo A n xs := (Fl.alloc h (Nat.le_refl _) o).more (Nat.le_refl _) (by simp)
theorem FlH.grown (h : FlH f w lo A n xs) {row : Option Nat} (hg : w.grownBy w' row) (hr : ∀ g, row = some g → g < lo) : FlH f w' lo A n xs := (Fl.grown h hg (Nat.le_refl _) fun g e => .inl (hr g e)).more (Nat.le_refl _) hg.size
theorem FlH.low (h : FlH f w lo A n xs) (hl : lo' ≤ lo) : FlH f w lo' A n xs := Fl.more h hl (Nat.le_refl _)
theorem FlH.nil (f : α → List Value) (w : World) (lo : Nat) (A : Option Addr) : FlH f w lo A 0 [] := Fl.nil _ _ _ _ _
end

/-- a record, with the row of its updates -/
structure RecC where
  kind : Int
  txn : Int
  A : Option Addr
  n : Nat
  c : Nat
  us : List Upd
def RecC.ab (r : RecC) : Rec := ⟨r.kind, r.txn, r.us⟩
/-- a record's cells -/
def cr (r : RecC) : List Value := [.int .i64 r.kind, .int .i64 r.txn, .slice r.A r.n r.c]
theorem cr_len (r : RecC) : (cr r).length = 3 := rfl
def rv (r : RecC) : Value := .agg #[.int .i64 r.kind, .int .i64 r.txn, .slice r.A r.n r.c]
/-- its updates lie in memory -/
def RecIn (w : World) (lo : Nat) (r : RecC) : Prop := FlH cu w lo r.A r.n r.us ∧ r.n ≤ r.c ∧ r.c ≤ 9223372036854775807
theorem RecIn.bd {w : World} {lo : Nat} {r : RecC} (h : RecIn w lo r) : r.n ≤ 9223372036854775807 := Nat.le_trans h.2.1 h.2.2
/-- records in memory -/
def Recs (w : World) (lo : Nat) (A : Option Addr) (n : Nat) (rs : List RecC) : Prop := FlH cr w lo A n rs ∧ ∀ r ∈ rs, RecIn w lo r
def abs (rs : List RecC) : List Rec := rs.map RecC.ab
theorem abs_len (rs : List RecC) : (abs rs).length = rs.length := List.length_map _
theorem abs_take (rs : List RecC) (k : Nat) : abs (rs.take k) = (abs rs).take k := List.map_take
section
variable {w w' : World} {lo lo' C n : Nat} {A : Option Addr} {rs : List RecC} {r : RecC}
theorem RecIn.bel (h : RecIn w lo r) (hb : Below w.heap.size w w') : RecIn w' lo r := ⟨h.1.bel hb, h.2⟩
theorem RecIn.drewN (h : RecIn w lo r) (k : Nat) : RecIn (w.drewN k) lo r := h
theorem RecIn.alloc (h : RecIn w lo r) (o : Obj) : RecIn (w.alloc o) lo r := ⟨h.1.alloc o, h.2⟩
theorem RecIn.grown (h : RecIn w lo r) {row : Option Nat} (hg : w.grownBy w' row) (hr : ∀ g, row = some g → g < lo) : RecIn w' lo r := ⟨h.1.grown hg hr, h.2⟩
theorem RecIn.low (h : RecIn w lo r) (hl : lo' ≤ lo) : RecIn w lo' r := ⟨h.1.low hl, h.2⟩
theorem Recs.nil (w : World) (lo : Nat) (A : Option Addr) : Recs w lo A 0 [] := ⟨FlH.nil _ _ _ _, fun r hr => by cases hr⟩
theorem Recs.bel (h : Recs w lo A n rs) (hb : Below w.heap.size w w') : Recs w' lo A n rs := ⟨h.1.bel hb, fun r hr => (h.2 r hr).bel hb⟩
theorem Recs.drewN (h : Recs w lo A n rs) (k : Nat) : Recs (w.drewN k) lo A n rs := h
theorem Recs.alloc (h : Recs w lo A n rs) (o : Obj) : Recs (w.alloc o) lo A n rs := ⟨h.1.alloc o, fun r hr => (h.2 r hr).alloc o⟩
theorem Recs.grown (h : Recs w lo A n rs) {row : Option Nat} (hg : w.grownBy w' row) (hr : ∀ g, row = some g → g < lo) : Recs w' lo A n rs := ⟨h.1.grown hg hr, fun r hq => (h.2 r hq).grown hg hr⟩
theorem Recs.low (h : Recs w lo A n rs) (hl : lo' ≤ lo) : Recs w lo' A n rs := ⟨h.1.low hl, fun r hr => (h.2 r hr).low hl⟩
theorem Fl.take {α : Type} {f : α → List Value} {hi : Nat} {xs : List α} (h : Fl f w lo hi A n xs) {k : Nat} (hk : k ≤ n) : Fl f w lo hi A k (xs.take k) := by
  refine ⟨by rw [List.length_take, h.1]; omega, fun hne => ?_⟩
  have e : xs.flatMap f = (xs.take k).flatMap f ++ (xs.drop k).flatMap f := by rw [← List.flatMap_append, List.take_append_drop]
  obtain ⟨b, o, h1, h2, h3, hc⟩ := h.2 (by rw [e]; intro h; exact hne (List.append_eq_nil_iff.1 h).1)
  refine ⟨b, o, h1, h2, h3, fun j u hu => hc j u ?_⟩
  rw [e, List.getElem?_append_left (List.getElem?_eq_some_iff.1 hu).1]; exact hu
theorem Recs.take (h : Recs w lo A n rs) {k : Nat} (hk : k ≤ n) : Recs w lo A k (rs.take k) := ⟨Fl.take h.1 hk, fun r hr => h.2 r (List.mem_of_mem_take hr)⟩
theorem Recs.at_ (h : Recs w lo A n rs) {k : Nat} (hk : k < n) :
    ∃ (b o : Nat) (hl : k < rs.length), A = some ⟨b, o, none⟩ ∧ lo ≤ b ∧ b < w.heap.size ∧ w.cell? ⟨b, o + k * 3, none⟩ = some (.int .i64 rs[k].kind) ∧ w.cell? ⟨b, o + k * 3 + 1, none⟩ = some (.int .i64 rs[k].txn) ∧
      w.cell? ⟨b, o + k * 3 + 2, none⟩ = some (.slice rs[k].A rs[k].n rs[k].c) ∧ RecIn w lo rs[k] := by
  obtain ⟨b, o, hl, rfl, g1, g2, hc⟩ := Fl.at_ h.1 cr_len (by omega) hk
  exact ⟨b, o, hl, rfl, g1, g2, hc 0 _ rfl, hc 1 _ rfl, hc 2 _ rfl, h.2 _ (List.getElem_mem hl)⟩
end

end Go.Proofs.Ytgnhanbdfohjaaa
