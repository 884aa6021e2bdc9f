/-
  Data with depth, more plain words: how large a datum is; a struct's fields in memory of their own; a row that is made and then filled with structs. No condition.
-/
import Derived.Test.YtgbkjfhmbchiiaaNest
namespace Go.Proofs.Ytgbkjfhmbchiiaa
set_option linter.unusedVariables false
set_option linter.unusedSimpArgs false
open Go.RowKit

mutual
/-- how large a datum is: elements and bytes -/
def D.sz : D → Nat
  | .int _ => 0
  | .bool _ => 0
  | .str s => s.size
  | .arr _ n es => n + D.szL es
def D.szL : List D → Nat
  | [] => 0
  | d :: ds => D.sz d + D.szL ds
end
theorem sz_int (n : Int) : D.sz (.int n) = 0 := by unfold D.sz; rfl
theorem sz_bool (b : Bool) : D.sz (.bool b) = 0 := by unfold D.sz; rfl
theorem sz_str (s : ByteArray) : D.sz (.str s) = s.size := by unfold D.sz; rfl
theorem sz_arr (m n : Nat) (es : List D) : D.sz (.arr m n es) = n + D.szL es := by rw [D.sz]
theorem szL_nil : D.szL [] = 0 := by unfold D.szL; rfl
theorem szL_cons (d : D) (ds : List D) : D.szL (d :: ds) = D.sz d + D.szL ds := by rw [D.szL]
theorem szL_app (a b : List D) : D.szL (a ++ b) = D.szL a + D.szL b := by
  induction a with
  | nil => simp [szL_nil]
  | cons d a ih => rw [List.cons_append, szL_cons, szL_cons, ih]; omega
theorem szL_ints (xs : List Int) : D.szL (xs.map .int) = 0 := by
  induction xs with
  | nil => exact szL_nil
  | cons x xs ih => rw [List.map_cons, szL_cons, sz_int, ih]
theorem sz_ints (xs : List Int) : D.sz (intsD xs) = xs.length := by unfold intsD; rw [sz_arr, szL_ints]; rfl
theorem szL_take {α : Type} (f : α → List D) (xs : List α) (k : Nat) (hk : k < xs.length) : D.szL ((xs.take (k + 1)).flatMap f) = D.szL ((xs.take k).flatMap f) + D.szL (f xs[k]) := by
  rw [List.take_succ_eq_append_getElem hk, List.flatMap_append, szL_app]; simp
theorem szL_get {α : Type} (f : α → List D) (xs : List α) {x : α} (hx : x ∈ xs) : D.szL (f x) ≤ D.szL (xs.flatMap f) := by
  induction xs with
  | nil => cases hx
  | cons y ys ih =>
    rw [List.flatMap_cons, szL_app]
    rcases List.mem_cons.1 hx with rfl | hx
    · omega
    · have := ih hx; omega

/-- what a function that counts down answers -/
def SzR (left : Int) (s : Nat) (w : World) (e : Ending) (w' : World) : Prop := ∃ r : Int, -1 ≤ r ∧ r ≤ left ∧ (0 ≤ r → r + s ≤ left) ∧ Below w.heap.size w w' ∧ e = .returned (.int .i64 r)

theorem bel_tr {C : Nat} {a b c : World} (h : Below C a b) (hC : C ≤ a.heap.size) (k : Below b.heap.size b c) : Below C a c := h.trans (k.mono (Nat.le_trans hC h.size))

/-- a struct's fields, in memory of their own, in blocks from lo on -/
def OwnL (w : World) (lo : Nat) (ds : List D) (vs : List Value) : Prop := ∃ F : List Nat, F.Nodup ∧ (∀ g ∈ F, lo ≤ g ∧ g < w.heap.size) ∧ D.ownL w ds F vs
section
variable {w w' : World} {lo lo' : Nat} {d : D} {ds : List D} {v : Value} {vs : List Value}
theorem OwnL.nil (w : World) (lo : Nat) : OwnL w lo [] [] := ⟨[], List.nodup_nil, fun _ h => (by cases h), D.ownL.nil w⟩
theorem OwnL.grown {row : Option Nat} (h : OwnL w lo ds vs) (hg : w.grownBy w' row) (hr : ∀ g, row = some g → g < lo) : OwnL w' lo ds vs := by
  obtain ⟨F, h1, h2, h3⟩ := h
  refine ⟨F, h1, fun g hg' => ⟨(h2 g hg').1, Nat.lt_of_lt_of_le (h2 g hg').2 hg.size⟩, D.ownL.keep ds F vs (fun g hg' => hg.block g (h2 g hg').2 (fun e => ?_)) h3⟩
  have := hr g e.symm
  have := (h2 g hg').1; omega
theorem OwnL.fresh (h : OwnL w lo ds vs) (hb : Below w.heap.size w w') : OwnL w' lo ds vs := h.grown (grown_none hb none) (fun _ e => by cases e)
theorem OwnL.low (h : OwnL w lo ds vs) (hl : lo' ≤ lo) : OwnL w lo' ds vs := by
  obtain ⟨F, h1, h2, h3⟩ := h
  exact ⟨F, h1, fun g hg => ⟨Nat.le_trans hl (h2 g hg).1, (h2 g hg).2⟩, h3⟩
theorem set_grownL (w : World) (g j : Nat) (u : Value) : w.grownBy (w.setCell ⟨g, j, none⟩ u) (some g) :=
  ⟨rfl, rfl, rfl, by simp [World.setCell], fun i _ hne => Below.heap_setCell _ _ _ _ (fun e => hne (by rw [e]))⟩
theorem OwnL.set (h : OwnL w lo ds vs) {g : Nat} (hg : g < lo) (j : Nat) (u : Value) : OwnL (w.setCell ⟨g, j, none⟩ u) lo ds vs := h.grown (set_grownL w g j u) (fun q hq => by injection hq with hq; omega)
theorem Own.set (h : Own w lo d v) {g : Nat} (hg : g < lo) (j : Nat) (u : Value) : Own (w.setCell ⟨g, j, none⟩ u) lo d v := h.grown (set_grownL w g j u) (fun q hq => by injection hq with hq; omega)
/-- one field more, made behind the others -/
theorem OwnL.snoc {lo2 : Nat} (h : OwnL w lo ds vs) (hk : w.heap.size ≤ lo2) (hb : Below w.heap.size w w') (hd : Own w' lo2 d v) (hlo : lo ≤ lo2) : OwnL w' lo (ds ++ [d]) (vs ++ [v]) := by
  obtain ⟨F, h1, h2, h3⟩ := h
  obtain ⟨G, k1, k2, k3⟩ := hd
  refine ⟨F ++ G, List.nodup_append.2 ⟨h1, k1, fun a ha b hb' e => ?_⟩, fun g hg => ?_, ?_⟩
  · subst e; have := (h2 a ha).2; have := (k2 a hb').1; omega
  · rcases List.mem_append.1 hg with hg | hg
    · exact ⟨(h2 g hg).1, Nat.lt_of_lt_of_le (h2 g hg).2 hb.size⟩
    · exact ⟨Nat.le_trans hlo (k2 g hg).1, (k2 g hg).2⟩
  · have := D.ownL.cons k3 (D.ownL.nil w')
    rw [List.append_nil] at this
    exact D.ownL.app (D.ownL.keep ds F vs (fun g hg => hb.block g (h2 g hg).2) h3) this
theorem OwnL.int (h : OwnL w lo ds vs) (n : Int) : OwnL w lo (ds ++ [.int n]) (vs ++ [.int .i64 n]) := by
  obtain ⟨F, h1, h2, h3⟩ := h
  refine ⟨F, h1, h2, ?_⟩
  have := D.ownL.app h3 (D.ownL.cons (D.own.int w n) (D.ownL.nil w))
  simpa using this
theorem OwnL.str (h : OwnL w lo ds vs) {s : ByteArray} (hs : s.size ≤ 9223372036854775807) : OwnL w lo (ds ++ [.str s]) (vs ++ [.string s]) := by
  obtain ⟨F, h1, h2, h3⟩ := h
  refine ⟨F, h1, h2, ?_⟩
  have := D.ownL.app h3 (D.ownL.cons (D.own.str w hs) (D.ownL.nil w))
  simpa using this
end

/-- a row of n structs in block H, the first k of which have been filled; their parts lie behind it -/
def FillS {α : Type} (f : α → List D) (m : Nat) (z : List Value) (E : TypeId) (w : World) (H n k : Nat) (xs : List α) : Prop :=
  ∃ us, OwnL w (H + 1) ((xs.take k).flatMap f) us ∧ w.ownsRow H E m (.slice (some ⟨H, 0, none⟩) n n) n (us ++ (List.replicate (n - k) z).flatten)
section
variable {α : Type} {f : α → List D} {m : Nat} {z : List Value} {E : TypeId} {w w' : World} {H n k : Nat} {xs : List α}
theorem FillS.start (h : w.ownsRow H E m (.slice (some ⟨H, 0, none⟩) n n) n (List.replicate n z).flatten) : FillS f m z E w H n 0 xs := ⟨[], by simpa using OwnL.nil w _, by simpa using h⟩
theorem FillS.fresh (h : FillS f m z E w H n k xs) (hb : Below w.heap.size w w') : FillS f m z E w' H n k xs := by
  obtain ⟨us, h1, h2⟩ := h
  exact ⟨us, h1.fresh hb, own_below h2 hb⟩
theorem FillS.drewN (h : FillS f m z E w H n k xs) (q : Nat) : FillS f m z E (w.drewN q) H n k xs := by
  obtain ⟨us, ⟨F, k1, k2, k3⟩, h2⟩ := h
  exact ⟨us, ⟨F, k1, k2, D.ownL.keep (w := w) (w' := w.drewN q) _ F _ (fun g _ => rfl) k3⟩, h2⟩
theorem FillS.lt (h : FillS f m z E w H n k xs) : H < w.heap.size := by
  obtain ⟨us, -, h2⟩ := h
  exact (h2.lt H rfl).2
theorem FillS.cell (h : FillS f m z E w H n k xs) (hk : k < n) (j : Nat) (hj : j < m) : ∃ u, w.cell? ⟨H, k * m + j, none⟩ = some u ∧ w.frozen? ⟨H, k * m + j, none⟩ = false := by
  obtain ⟨us, -, h2⟩ := h
  exact own_cells h2 hk j hj
/-- element k's cells have been stored, one by one -/
def setRow (w : World) (H p : Nat) : List Value → World
  | [] => w
  | v :: vs => setRow (w.setCell ⟨H, p, none⟩ v) H (p + 1) vs
theorem own_setRow {base n cap : Nat} {e : TypeId} {size : Nat} (vs : List Value) : ∀ {w : World} {cs : List Value} (p : Nat), w.ownsRow base e size (.slice (some ⟨H, 0, none⟩) n cap) n cs → (setRow w H p vs).ownsRow base e size (.slice (some ⟨H, 0, none⟩) n cap) n (setMany cs p vs) := by
  induction vs with
  | nil => intro w cs p h; exact h
  | cons v vs ih => intro w cs p h; exact ih (p + 1) (h.stored p v).1
theorem ownL_setRow {lo : Nat} {ds : List D} {us : List Value} (vs : List Value) (hH : H < lo) : ∀ {w : World} (p : Nat), OwnL w lo ds us → OwnL (setRow w H p vs) lo ds us := by
  induction vs with
  | nil => intro w p h; exact h
  | cons v vs ih => intro w p h; exact ih (p + 1) (h.set hH p v)
theorem OwnL.app {lo lo2 : Nat} {ds es : List D} {us vs : List Value} (h : OwnL w lo ds us) (hk : w.heap.size ≤ lo2) (hb : Below w.heap.size w w') (hd : OwnL w' lo2 es vs) (hlo : lo ≤ lo2) : OwnL w' lo (ds ++ es) (us ++ vs) := by
  obtain ⟨F, h1, h2, h3⟩ := h
  obtain ⟨G, k1, k2, k3⟩ := hd
  refine ⟨F ++ G, List.nodup_append.2 ⟨h1, k1, fun a ha b hb' e => ?_⟩, fun g hg => ?_, ?_⟩
  · subst e; have := (h2 a ha).2; have := (k2 a hb').1; omega
  · rcases List.mem_append.1 hg with hg | hg
    · exact ⟨(h2 g hg).1, Nat.lt_of_lt_of_le (h2 g hg).2 hb.size⟩
    · exact ⟨Nat.le_trans hlo (k2 g hg).1, (k2 g hg).2⟩
  · exact D.ownL.app (D.ownL.keep ds F us (fun g hg => hb.block g (h2 g hg).2) h3) k3
theorem FillS.step (h : FillS f m z E w H n k xs) (hf : ∀ x, (f x).length = m) (hz : z.length = m) (hk : k < xs.length) (hn : k < n) (hb : Below w.heap.size w w') {vs : List Value} (hd : OwnL w' w.heap.size (f xs[k]) vs) : FillS f m z E (setRow w' H (k * m) vs) H n (k + 1) xs := by
  have hlt := h.lt
  obtain ⟨us, h1, h2⟩ := h
  have hul : us.length = k * m := by
    obtain ⟨F, -, -, h3⟩ := h1
    rw [D.ownL.length h3, flat_lenG f m hf, List.length_take, Nat.min_eq_left (by omega)]
  have hvl : vs.length = m := by
    obtain ⟨F, -, -, h3⟩ := hd
    rw [D.ownL.length h3, hf]
  refine ⟨us ++ vs, ?_, ?_⟩
  · rw [List.take_succ_eq_append_getElem hk, List.flatMap_append]
    refine ownL_setRow vs (by omega) _ (h1.app (Nat.le_refl _) hb ?_ hlt)
    simpa using hd
  · have h3 := own_setRow vs (k * m) (own_below h2 hb)
    have e : List.replicate (n - k) z = z :: List.replicate (n - (k + 1)) z := by
      rw [← List.replicate_succ]; congr 1; omega
    rw [e, List.flatten_cons, ← List.append_assoc, ← hul, setMany_mid _ _ _ _ (by omega)] at h3
    rw [← hul]; exact h3
theorem FillS.done (h : FillS f m z E w H n n xs) (hl : xs.length = n) : Own w H (.arr m n (xs.flatMap f)) (.slice (some ⟨H, 0, none⟩) n n) := by
  obtain ⟨us, ⟨F, k1, k2, k3⟩, h2⟩ := h
  rw [List.take_of_length_le (by omega)] at k3
  rw [Nat.sub_self] at h2
  simp only [List.replicate_zero, List.flatten_nil, List.append_nil] at h2
  exact Grow.own (E := E) ⟨us, F, h2, k3, k1, fun g hg => ⟨by have := (k2 g hg).1; omega, (k2 g hg).2⟩, fun g hg hgF => by have h5 : H = g := (by injection hg); have := (k2 g hgF).1; omega⟩
end

end Go.Proofs.Ytgbkjfhmbchiiaa
