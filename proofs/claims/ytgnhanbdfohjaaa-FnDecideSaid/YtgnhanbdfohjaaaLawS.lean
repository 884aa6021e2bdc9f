/-
  Words for the walks of the laws on shards: a variable that holds a shard or a state, kept across calls. No condition.
-/
import Derived.Test.YtgnhanbdfohjaaaShLaw
namespace Go.Proofs.Ytgnhanbdfohjaaa
set_option linter.unusedVariables false
set_option linter.unusedSimpArgs false
open Go.RowKit

/-- the variable in block b holds a shard, whose records lie from lo on -/
structure Bx (lo : Nat) (W : World) (b : Nat) (A : Option Addr) (n c : Nat) (rs : List RecC) : Prop where
  blk : W.heap[b]? = some (.cells #[.slice A n c] 25 (0, 0))
  recs : Recs W lo A n rs
section
variable {lo b n c : Nat} {W W' : World} {A : Option Addr} {rs : List RecC}
theorem Bx.bel (h : Bx lo W b A n c rs) (hb : Below W.heap.size W W') : Bx lo W' b A n c rs := ⟨(hb.block _ (heap_lt h.blk)).trans h.blk, h.recs.bel hb⟩
theorem Bx.alloc (h : Bx lo W b A n c rs) (o : Obj) : Bx lo (W.alloc o) b A n c rs := ⟨(Below.heap_alloc _ _ _ (heap_lt h.blk)).trans h.blk, h.recs.alloc o⟩
theorem Bx.drewN (h : Bx lo W b A n c rs) (k : Nat) : Bx lo (W.drewN k) b A n c rs := ⟨h.blk, h.recs.drewN k⟩
theorem Bx.cell (h : Bx lo W b A n c rs) : W.cell? ⟨b, 0, none⟩ = some (.slice A n c) := cell_zero h.blk
theorem Bx.lt (h : Bx lo W b A n c rs) : b < W.heap.size := heap_lt h.blk
theorem Bx.mk0 (h : Recs W lo A n rs) : Bx lo (W.alloc (.cells #[.slice A n c] 25)) W.heap.size A n c rs := ⟨heap_alloc_new _ _, h.alloc _⟩
end
/-- the variable in block b holds a state, whose rows lie from lo on -/
structure Sx (lo : Nat) (W : World) (b : Nat) (A1 : Option Addr) (k1 c1 : Nat) (A2 : Option Addr) (k2 c2 : Nat) (xs ys : List Int) : Prop where
  blk : W.heap[b]? = some (.cells #[.slice A1 k1 c1, .slice A2 k2 c2] 30 (0, 0))
  refs : FlH ci W lo A1 k1 xs
  locks : FlH ci W lo A2 k2 ys
section
variable {lo b k1 c1 k2 c2 : Nat} {W W' : World} {A1 A2 : Option Addr} {xs ys : List Int}
theorem Sx.bel (h : Sx lo W b A1 k1 c1 A2 k2 c2 xs ys) (hb : Below W.heap.size W W') : Sx lo W' b A1 k1 c1 A2 k2 c2 xs ys := ⟨(hb.block _ (heap_lt h.blk)).trans h.blk, h.refs.bel hb, h.locks.bel hb⟩
theorem Sx.alloc (h : Sx lo W b A1 k1 c1 A2 k2 c2 xs ys) (o : Obj) : Sx lo (W.alloc o) b A1 k1 c1 A2 k2 c2 xs ys := ⟨(Below.heap_alloc _ _ _ (heap_lt h.blk)).trans h.blk, h.refs.alloc o, h.locks.alloc o⟩
theorem Sx.drewN (h : Sx lo W b A1 k1 c1 A2 k2 c2 xs ys) (k : Nat) : Sx lo (W.drewN k) b A1 k1 c1 A2 k2 c2 xs ys := ⟨h.blk, h.refs.drewN k, h.locks.drewN k⟩
theorem Sx.cell0 (h : Sx lo W b A1 k1 c1 A2 k2 c2 xs ys) : W.cell? ⟨b, 0, none⟩ = some (.slice A1 k1 c1) := cell_zero h.blk
theorem Sx.cell1 (h : Sx lo W b A1 k1 c1 A2 k2 c2 xs ys) : W.cell? ⟨b, 1, none⟩ = some (.slice A2 k2 c2) := by rw [cell_of_row W b 1 _ _ _ h.blk]; rfl
theorem Sx.lt (h : Sx lo W b A1 k1 c1 A2 k2 c2 xs ys) : b < W.heap.size := heap_lt h.blk
theorem Sx.mk0 (h : FlH ci W lo A1 k1 xs) (h' : FlH ci W lo A2 k2 ys) : Sx lo (W.alloc (.cells #[.slice A1 k1 c1, .slice A2 k2 c2] 30)) W.heap.size A1 k1 c1 A2 k2 c2 xs ys := ⟨heap_alloc_new _ _, h.alloc _, h'.alloc _⟩
end
theorem FlH.getR {w : World} {lo n : Nat} {A : Option Addr} {xs : List Int} (h : FlH ci w lo A n xs) {k : Nat} (hk : k < n) :
    ∃ b o, A = some ⟨b, o, none⟩ ∧ lo ≤ b ∧ b < w.heap.size ∧ w.cell? ⟨b, o + k, none⟩ = some (.int .i64 (Go.Proofs.Ytgnhanbdfohjaaa.getR xs k)) := by
  obtain ⟨b, o, hl, rfl, g1, g2, hc⟩ := Fl.int h hk
  refine ⟨b, o, rfl, g1, g2, ?_⟩
  unfold Go.Proofs.Ytgnhanbdfohjaaa.getR
  rw [List.getD_eq_getElem?_getD, Int.toNat_natCast, List.getElem?_eq_getElem hl]
  exact hc
theorem Sx.at0 {lo b k1 c1 k2 c2 : Nat} {W : World} {A1 A2 : Option Addr} {xs ys : List Int} (h : Sx lo W b A1 k1 c1 A2 k2 c2 xs ys) {k : Nat} (hk : k < k1) :
    ∃ b o, A1 = some ⟨b, o, none⟩ ∧ lo ≤ b ∧ b < W.heap.size ∧ W.cell? ⟨b, o + k, none⟩ = some (.int .i64 (Go.Proofs.Ytgnhanbdfohjaaa.getR xs k)) := h.refs.getR hk
theorem Sx.at1 {lo b k1 c1 k2 c2 : Nat} {W : World} {A1 A2 : Option Addr} {xs ys : List Int} (h : Sx lo W b A1 k1 c1 A2 k2 c2 xs ys) {k : Nat} (hk : k < k2) :
    ∃ b o, A2 = some ⟨b, o, none⟩ ∧ lo ≤ b ∧ b < W.heap.size ∧ W.cell? ⟨b, o + k, none⟩ = some (.int .i64 (Go.Proofs.Ytgnhanbdfohjaaa.getR ys k)) := h.locks.getR hk
theorem below_tr {B : Nat} {w W W' : World} (h : Below B w W) (hs : B ≤ w.heap.size) (hb : Below W.heap.size W W') : Below B w W' := h.trans (hb.mono (Nat.le_trans hs h.size))
theorem below_draw {B : Nat} {w W : World} (h : Below B w W) (k : Nat) : Below B w (W.drewN k) := below_drewN h k

end Go.Proofs.Ytgnhanbdfohjaaa
