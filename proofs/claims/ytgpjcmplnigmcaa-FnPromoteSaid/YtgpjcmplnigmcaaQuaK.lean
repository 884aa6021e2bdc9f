/-
  A variable that holds an object which the program's StoreGet has handed back. No condition.
-/
import Derived.Test.YtgpjcmplnigmcaaM13
namespace Go.Proofs.Ytgpjcmplnigmcaa
set_option linter.unusedVariables false
set_option linter.unusedSimpArgs false
open Go.RowKit

def XB (w0 wk wx : World) (x : Nat) (kind : Int) (links : List Int) (text : ByteArray) (A : Option Addr) (c : Nat) : Prop :=
  wx.heap[x]? = some (.cells #[.int .i64 kind, .slice A links.length c, .string text] 58 (0, 0)) ∧ D.rd wx w0.heap.size wx.heap.size (intsD links) (.slice A links.length c) ∧ Below wk.heap.size wk wx
theorem XB.old {w0 wk wb : World} {x : Nat} {kind : Int} {links : List Int} {text : ByteArray} {A : Option Addr} {c : Nat} {v0 v1 v2 : Value} (hb : Below wk.heap.size wk wb) (hx : wb.heap[x]? = some (.cells #[v0, v1, v2] 58 (0, 0))) (hk : wk.heap.size ≤ x) (hr : D.rd wb (x + 1) wb.heap.size (intsD links) (.slice A links.length c)) (h0 : w0.heap.size ≤ x + 1) :
    XB w0 wk (((wb.setCell ⟨x, 0, none⟩ (.int .i64 kind)).setCell ⟨x, 1, none⟩ (.slice A links.length c)).setCell ⟨x, 2, none⟩ (.string text)) x kind links text A c := by
  refine ⟨?_, ?_, ((hb.setCell hk _).setCell hk _).setCell hk _⟩
  · rw [heap_setCell_same _ x 2 _ _ _ (heap_setCell_same _ x 1 _ _ _ (heap_setCell_same wb x 0 _ _ _ hx))]; rfl
  · exact (((hr.setCell (p := ⟨x, 0, none⟩) (.inl (Nat.lt_succ_self x)) _).setCell (p := ⟨x, 1, none⟩) (.inl (Nat.lt_succ_self x)) _).setCell (p := ⟨x, 2, none⟩) (.inl (Nat.lt_succ_self x)) _).more h0 (by simp)
theorem XB.new {w0 wk wb : World} {kind : Int} {links : List Int} {text : ByteArray} {A : Option Addr} {c : Nat} (hb : Below wk.heap.size wk wb) (hr : D.rd wb w0.heap.size wb.heap.size (intsD links) (.slice A links.length c)) :
    XB w0 wk (wb.alloc (.cells #[.int .i64 kind, .slice A links.length c, .string text] 58)) wb.heap.size kind links text A c :=
  ⟨heap_alloc_new wb _, hr.fresh ((Below.refl _ _).alloc (Nat.le_refl _) _), hb.alloc hb.size _⟩

end Go.Proofs.Ytgpjcmplnigmcaa
