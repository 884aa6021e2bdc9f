/-
  The walk of the program's PackObjects: the objects of a pack. Condition: lengths are small.
-/
import Derived.Test.YtnaeglfochnikaaGreatZ13
import Derived.Deep.DeepCutAuto
import Derived.Deep.CutBlock
namespace Go.Proofs.YtnaeglfochnikaaGreat
set_option linter.unusedVariables false
set_option linter.unusedSimpArgs false
open Go.RowKit

theorem rdL_ops {w : World} {lo hi : Nat} : ∀ {xs : List OpD} {vs : List Value}, D.rdL w lo hi (xs.flatMap fOp) vs → vs = xs.flatMap co
  | [], vs, h => by simp only [List.flatMap_nil] at h; unfold D.rdL at h; subst h; rfl
  | x :: xs, vs, h => by
    rw [List.flatMap_cons] at h
    unfold fOp at h
    simp only [List.cons_append, List.nil_append] at h
    unfold D.rdL at h
    obtain ⟨v0, r0, rfl, h0, h⟩ := h
    unfold D.rdL at h
    obtain ⟨v1, r1, rfl, h1, h⟩ := h
    unfold D.rdL at h
    obtain ⟨v2, r2, rfl, h2, h⟩ := h
    rw [rdL_ops (xs := xs) h, h0.int_inv, h1.int_inv, h2.str_inv.1]; rfl
theorem D.rd.ops {w : World} {lo hi n c : Nat} {A : Option Addr} {xs : List OpD} (h : D.rd w lo hi (dOps xs) (.slice A n c)) : Fl co w lo hi A n xs := by
  have hn := h.len.1
  unfold dOps D.rd at h
  obtain ⟨A', c', vs, e, g2, g3, g4, g5, g6⟩ := h
  injection e with e1 e2 e3
  subst e1
  rw [rdL_ops g6] at g5
  exact ⟨hn.symm, g5⟩

theorem own_nilD (w : World) (lo m c : Nat) (A : Option Addr) (hc : c ≤ 9223372036854775807) : Own w lo (.arr m 0 []) (.slice A 0 c) := by
  refine ⟨[], List.nodup_nil, fun _ h => (by cases h), ?_⟩
  unfold D.own
  exact ⟨A, c, [], [], rfl, Nat.zero_le _, hc, by simp, D.ownL.nil w, .inl ⟨rfl, rfl⟩⟩

theorem nodup_inj {gs : List Nat} (h : gs.Nodup) {i j : Nat} (hi : i < gs.length) (hj : j < gs.length) (e : gs[i] = gs[j]) : i = j := by
  have h1 := List.pairwise_iff_getElem.1 h
  rcases Nat.lt_trichotomy i j with hl | hl | hl
  · exact absurd e (h1 i j hi hj hl)
  · exact hl
  · exact absurd e.symm (h1 j i hj hi hl)
/-- the texts of the first k entries -/
def textTo (ps : List PED) (k : Nat) (i : Nat) : ByteArray := if i < k then txtP ps i else ByteArray.empty
theorem Nodes.setText {w : World} {lo hi base : Nat} {ps : List PED} {T : Nat → ByteArray} {gs : List Nat} (h : Nodes w lo hi base ps T gs) {k : Nat} (hk : k < gs.length) (t : ByteArray) (hb : hi ≤ base) : Nodes (w.setCell ⟨gs[k], 5, none⟩ (.string t)) lo hi base ps (fun i => if i = k then t else T i) gs := by
  refine ⟨h.1, fun i hi' => ?_⟩
  obtain ⟨hp, hbi, hn⟩ := h.2 i hi'
  refine ⟨hp, hbi, ?_⟩
  have hbk := (h.2 k hk).choose_spec.1
  have hrk : ∀ q : Addr, lo ≤ q.block → q.block < hi → (w.setCell ⟨gs[k], 5, none⟩ (.string t)).cell? q = w.cell? q := fun q _ hq => World.cell?_setCell_other _ _ _ _ (fun e => by have : gs[k] = q.block := congrArg Addr.block e; omega)
  by_cases hik : i = k
  · subst hik
    show NodeAt _ lo hi ps[i] _ (if i = i then t else T i) gs[i]
    rw [if_pos rfl]
    obtain ⟨A, n, c, B, m, d, h1, h2, h3⟩ := hn
    refine ⟨A, n, c, B, m, d, ?_, D.rd.keep hrk (Nat.le_refl _) (Nat.le_refl _) _ _ h2, D.rd.keep hrk (Nat.le_refl _) (Nat.le_refl _) _ _ h3⟩
    rw [heap_setCell_same w gs[i] 5 _ _ _ h1]; rfl
  · show NodeAt _ lo hi ps[i] _ (if i = k then t else T i) gs[i]
    rw [if_neg hik]
    refine hn.keep (Below.heap_setCell _ _ _ _ (fun e => ?_)) hrk
    have e' : gs[i] = gs[k] := e
    exact hik (nodup_inj h.1 hi' hk e')
theorem Nodes.textEq {w : World} {lo hi base : Nat} {ps : List PED} {T T' : Nat → ByteArray} {gs : List Nat} (h : Nodes w lo hi base ps T gs) (he : ∀ i, i < gs.length → T i = T' i) : Nodes w lo hi base ps T' gs :=
  ⟨h.1, fun i hi' => by
    obtain ⟨hp, hb, hn⟩ := h.2 i hi'
    rw [← he i hi']
    exact ⟨hp, hb, hn⟩⟩

theorem strD_size (b : ByteArray) (ops : List OpD) : (strD b ops).size ≤ 8 := by
  rcases h : okD b ops with _ | _
  · rw [strD_no h]; decide
  · exact okD_size h
theorem txtP_size (ps : List PED) (i : Nat) : (txtP ps i).size ≤ 8 := by rw [txtP]; exact strD_size _ _
theorem btxtP_size (ps : List PED) (i : Nat) : (btxtP ps i).size ≤ 8 := by
  unfold btxtP
  split
  · exact txtP_size _ _
  · decide
theorem bel_dr {W W' : World} (h : Below W.drew.heap.size W.drew W') : Below W.heap.size W W' := ⟨h.os, h.tape, h.output, h.size, h.block⟩

theorem bel_al {W W' : World} {o : Obj} (h : Below (W.alloc o).heap.size (W.alloc o) W') : Below W.heap.size W W' := ((Below.refl _ _).alloc (Nat.le_refl _) o).trans (h.mono (by simp))
/-- an object in a box, its links in memory of their own -/
def ObjBox (kind : Int) (links : List Int) (t : ByteArray) (nk : Nat) (w : World) (v : Value) (wx : World) : Prop :=
  ∃ (p : Nat) (B : Option Addr) (d : Nat), v = .pointer (some ⟨p, 0, none⟩) ∧ wx.heap[p]? = some (.cells #[.int .i64 kind, .slice B nk d, .string t] 52 (0, 0)) ∧ w.heap.size ≤ p ∧ Below w.heap.size w wx ∧
    OwnL wx w.heap.size (fObject ⟨kind, links, t⟩) [.int .i64 kind, .slice B nk d, .string t]
theorem ObjBox.late {w w3 : World} {links : List Int} {nk d lo : Nat} {B : Option Addr} {o : Obj} (kind : Int) (t : ByteArray) (ht : t.size ≤ 9223372036854775807) (hb : Below w.heap.size w w3) (ho : Own w3 lo (intsD links) (.slice B nk d)) (he : o = .cells #[.int .i64 kind, .slice B nk d, .string t] 52 (0, 0)) (hlo : lo = w.heap.size := by rfl) :
    ObjBox kind links t nk w (.pointer (some ⟨w3.heap.size, 0, none⟩)) (w3.alloc o) := by
  subst hlo he
  refine ⟨w3.heap.size, B, d, rfl, heap_alloc_new w3 _, hb.size, hb.alloc hb.size _, ?_⟩
  exact ((((OwnL.nil w w.heap.size).int kind).snoc (Nat.le_refl _) hb ho (Nat.le_refl _)).str ht).fresh ((Below.refl _ _).alloc (Nat.le_refl _) _)
theorem ObjBox.early {w W w3 : World} {links : List Int} {nk d : Nat} {B : Option Addr} {o : Obj} {z : Array Value} (kind : Int) (t : ByteArray) (ht : t.size ≤ 9223372036854775807) (hb : Below (w.alloc o).heap.size (w.alloc o) w3) (ho : Own w3 W.heap.size (intsD links) (.slice B nk d))
    (hx : w3.heap[w.heap.size]? = some (.cells z 52 (0, 0))) (hz : z = #[.int .i64 0, .slice none 0 0, .string ⟨#[]⟩] := by rfl) (hW : W.heap.size = w.heap.size + 1 := by simp) :
    ObjBox kind links t nk w (.pointer (some ⟨w.heap.size, 0, none⟩)) (((w3.setCell ⟨w.heap.size, 0, none⟩ (.int .i64 kind)).setCell ⟨w.heap.size, 1, none⟩ (.slice B nk d)).setCell ⟨w.heap.size, 2, none⟩ (.string t)) := by
  subst hz
  have hb0 := bel_al hb
  refine ⟨w.heap.size, B, d, rfl, ?_, Nat.le_refl _, ((hb0.setCell (Nat.le_refl _) _).setCell (Nat.le_refl _) _).setCell (Nat.le_refl _) _, ?_⟩
  · rw [heap_setCell_same _ _ 2 _ _ _ (heap_setCell_same _ _ 1 _ _ _ (heap_setCell_same _ _ 0 _ _ _ hx))]; rfl
  · have h1 : OwnL w3 (w.heap.size + 1) (fObject ⟨kind, links, t⟩) [.int .i64 kind, .slice B nk d, .string t] := by
      have := (((OwnL.nil (w.alloc o) (w.heap.size + 1)).int kind).snoc (w' := w3) (lo2 := W.heap.size) (by simp [hW]) hb ho (by omega)).str ht
      exact this
    exact (((h1.set (by omega) _ _).set (by omega) _ _).set (by omega) _ _).low (by omega)

theorem pack_nodes {w w1 w6 w7 : World} {lo hi k n : Nat} {ps : List PED} {gs : List Nat} {o : Obj} {row : Option Nat} {t : ByteArray} (h : Nodes w6 lo hi w.heap.size ps (textTo ps k) gs) (hk : k < gs.length) (_ : gs.length = n) (hh : hi ≤ w.heap.size) (h1 : w.heap.size ≤ w1.heap.size) (h6 : w1.heap.size ≤ w6.heap.size) (ht : t = txtP ps k)
    (hgl : ∀ g ∈ gs, w.heap.size ≤ g ∧ g < w1.heap.size) (hrow : ∀ g, row = some g → w1.heap.size ≤ g) (hg : ((w6.setCell ⟨gs[k], 5, none⟩ (.string t)).alloc o).grownBy w7 row) : Nodes w7 lo hi w.heap.size ps (textTo ps (k + 1)) gs := by
  have hs : (w6.setCell ⟨gs[k], 5, none⟩ (.string t)).heap.size = w6.heap.size := by simp [World.setCell]
  have hs2 : ((w6.setCell ⟨gs[k], 5, none⟩ (.string t)).alloc o).heap.size = w6.heap.size + 1 := by simp [World.setCell]
  have h2 := h.setText hk t hh
  have h3 : Nodes (w6.setCell ⟨gs[k], 5, none⟩ (.string t)) lo hi w.heap.size ps (textTo ps (k + 1)) gs := h2.textEq fun i _ => by
    unfold textTo
    by_cases hik : i = k
    · subst hik; rw [if_pos rfl, if_pos (by omega), ht]
    · rw [if_neg hik]
      by_cases hl : i < k
      · rw [if_pos hl, if_pos (by omega)]
      · rw [if_neg hl, if_neg (by omega)]
  have key : ∀ g, g < w1.heap.size → w7.heap[g]? = (w6.setCell ⟨gs[k], 5, none⟩ (.string t)).heap[g]? := fun g hg1 =>
    (hg.block g (by omega) (fun e => by have := hrow g e.symm; omega)).trans (Below.heap_alloc _ _ _ (by omega))
  exact h3.keep (fun g hg' => key g (hgl g hg').2) (fun q _ hq => World.cell?_of_block (key q.block (by omega)))
theorem pack_row {w w1 w6 w7 : World} {lo hi k n cv gv : Nat} {ps : List PED} {T : Nat → ByteArray} {gs : List Nat} {o : Obj} {row : Option Nat} {t : ByteArray} {cs cs1 : List Value} (h : w6.ownsRow w.heap.size 90 1 (.slice (some ⟨gv, 0, none⟩) n cv) n cs) (hnd : Nodes w6 lo hi w.heap.size ps T gs) (hk : k < gs.length)
    (h1 : w1.ownsRow w.heap.size 90 1 (.slice (some ⟨gv, 0, none⟩) n cv) n cs1) (_ : 0 < n) (hrow : ∀ g, row = some g → w1.heap.size ≤ g) (hg : ((w6.setCell ⟨gs[k], 5, none⟩ (.string t)).alloc o).grownBy w7 row) : w7.ownsRow w.heap.size 90 1 (.slice (some ⟨gv, 0, none⟩) n cv) n cs := by
  have hne := hnd.ne_own h (by decide) gs[k] (List.getElem_mem hk)
  have h2 : (w6.setCell ⟨gs[k], 5, none⟩ (.string t)).ownsRow w.heap.size 90 1 (.slice (some ⟨gv, 0, none⟩) n cv) n cs := h.kept (set_grownL w6 gs[k] 5 (.string t)) (.inr hne)
  refine (h2.alloc o).kept hg (.inr fun e => ?_)
  have := hrow gv e.symm
  have := (h1.lt gv rfl).2
  omega

/-- what PackObjects leaves -/
def PackR (ps : List PED) (w : World) (e : Ending) (w' : World) : Prop :=
  Below w.heap.size w w' ∧ ∃ (B : Option Addr) (m d : Nat), Own w' w.heap.size (dObjects (packL ps)) (.slice B m d) ∧ e = .returned (.tuple #[.slice B m d, .bool (packB ps)])
theorem PackR.no {ps : List PED} {w w' : World} (h : packB ps = false) (hb : Below w.heap.size w w') : PackR ps w (.returned (.tuple #[.slice none 0 0, .bool false])) w' :=
  ⟨hb, none, 0, 0, by rw [packL_no h]; exact own_nilD _ _ _ _ _ (by omega), by rw [h]⟩

theorem entOk_no1 {ps : List PED} {k : Nat} (h : okD (btxtP ps k) (opsAt ps k) = false) : entOk ps k = false := by unfold entOk; rw [h]; rfl
theorem entOk_no2 {ps : List PED} {k : Nat} (h : objB (objP ps k) = false) : entOk ps k = false := by unfold entOk; rw [h]; simp

end Go.Proofs.YtnaeglfochnikaaGreat
