/-
  Data with depth, more plain words: how large a datum is; a struct's fields in memory of their own; a row that is made and then filled with structs. No condition.
  append onto a row of the call's own, with where the new slice lies: in the old block or in a new one. Plain law over any program.
  A row of the call's own that grows by an element whose parts have been made in memory of their own. Plain words; no condition.
  What refs and updates are, in plain Lean: valid refs, valid updates, updates that fit, refs that are set, refs that differ. No program in sight.
-/
import Derived.Test.YtgbkjfhmbchiiaaM1
import Derived.Maps.AppendAt
namespace Go.Proofs.Ytgbkjfhmbchiiaa
set_option linter.unusedVariables false
set_option linter.unusedSimpArgs false
open Go.RowKit

mutual
/-- how large a datum is: elements and bytes -/
def D.sz : D → Nat
  | .int _ => 0
  | .bool _ => 0
  | .str s => s.size
  | .arr _ n es => n + D.szL es
def D.szL : List D → Nat
  | [] => 0
  | d :: ds => D.sz d + D.szL ds
end
theorem sz_int (n : Int) : D.sz (.int n) = 0 := by unfold D.sz; rfl
theorem sz_bool (b : Bool) : D.sz (.bool b) = 0 := by unfold D.sz; rfl
theorem sz_str (s : ByteArray) : D.sz (.str s) = s.size := by unfold D.sz; rfl
theorem sz_arr (m n : Nat) (es : List D) : D.sz (.arr m n es) = n + D.szL es := by rw [D.sz]
theorem szL_nil : D.szL [] = 0 := by unfold D.szL; rfl
theorem szL_cons (d : D) (ds : List D) : D.szL (d :: ds) = D.sz d + D.szL ds := by rw [D.szL]
theorem szL_app (a b : List D) : D.szL (a ++ b) = D.szL a + D.szL b := by
  induction a with
  | nil => simp [szL_nil]
  | cons d a ih => rw [List.cons_append, szL_cons, szL_cons, ih]; omega
theorem szL_ints (xs : List Int) : D.szL (xs.map .int) = 0 := by
  induction xs with
  | nil => exact szL_nil
  | cons x xs ih => rw [List.map_cons, szL_cons, sz_int, ih]
theorem sz_ints (xs : List Int) : D.sz (intsD xs) = xs.length := by unfold intsD; rw [sz_arr, szL_ints]; rfl
theorem szL_take {α : Type} (f : α → List D) (xs : List α) (k : Nat) (hk : k < xs.length) : D.szL ((xs.take (k + 1)).flatMap f) = D.szL ((xs.take k).flatMap f) + D.szL (f xs[k]) := by
  rw [List.take_succ_eq_append_getElem hk, List.flatMap_append, szL_app]; simp
theorem szL_get {α : Type} (f : α → List D) (xs : List α) {x : α} (hx : x ∈ xs) : D.szL (f x) ≤ D.szL (xs.flatMap f) := by
  induction xs with
  | nil => cases hx
  | cons y ys ih =>
    rw [List.flatMap_cons, szL_app]
    rcases List.mem_cons.1 hx with rfl | hx
    · omega
    · have := ih hx; omega

/-- what a function that counts down answers -/
def SzR (left : Int) (s : Nat) (w : World) (e : Ending) (w' : World) : Prop := ∃ r : Int, -1 ≤ r ∧ r ≤ left ∧ (0 ≤ r → r + s ≤ left) ∧ Below w.heap.size w w' ∧ e = .returned (.int .i64 r)

theorem bel_tr {C : Nat} {a b c : World} (h : Below C a b) (hC : C ≤ a.heap.size) (k : Below b.heap.size b c) : Below C a c := h.trans (k.mono (Nat.le_trans hC h.size))

/-- a struct's fields, in memory of their own, in blocks from lo on -/
def OwnL (w : World) (lo : Nat) (ds : List D) (vs : List Value) : Prop := ∃ F : List Nat, F.Nodup ∧ (∀ g ∈ F, lo ≤ g ∧ g < w.heap.size) ∧ D.ownL w ds F vs
section
variable {w w' : World} {lo lo' : Nat} {d : D} {ds : List D} {v : Value} {vs : List Value}
theorem OwnL.nil (w : World) (lo : Nat) : OwnL w lo [] [] := ⟨[], List.nodup_nil, fun _ h => (by cases h), D.ownL.nil w⟩
theorem OwnL.grown {row : Option Nat} (h : OwnL w lo ds vs) (hg : w.grownBy w' row) (hr : ∀ g, row = some g → g < lo) : OwnL w' lo ds vs := by
  obtain ⟨F, h1, h2, h3⟩ := h
  refine ⟨F, h1, fun g hg' => ⟨(h2 g hg').1, Nat.lt_of_lt_of_le (h2 g hg').2 hg.size⟩, D.ownL.keep ds F vs (fun g hg' => hg.block g (h2 g hg').2 (fun e => ?_)) h3⟩
  have := hr g e.symm
  have := (h2 g hg').1; omega
theorem OwnL.fresh (h : OwnL w lo ds vs) (hb : Below w.heap.size w w') : OwnL w' lo ds vs := h.grown (grown_none hb none) (fun _ e => by cases e)
theorem OwnL.low (h : OwnL w lo ds vs) (hl : lo' ≤ lo) : OwnL w lo' ds vs := by
  obtain ⟨F, h1, h2, h3⟩ := h
  exact ⟨F, h1, fun g hg => ⟨Nat.le_trans hl (h2 g hg).1, (h2 g hg).2⟩, h3⟩
theorem set_grownL (w : World) (g j : Nat) (u : Value) : w.grownBy (w.setCell ⟨g, j, none⟩ u) (some g) :=
  ⟨rfl, rfl, rfl, by simp [World.setCell], fun i _ hne => Below.heap_setCell _ _ _ _ (fun e => hne (by rw [e]))⟩
theorem OwnL.set (h : OwnL w lo ds vs) {g : Nat} (hg : g < lo) (j : Nat) (u : Value) : OwnL (w.setCell ⟨g, j, none⟩ u) lo ds vs := h.grown (set_grownL w g j u) (fun q hq => by injection hq with hq; omega)
theorem Own.set (h : Own w lo d v) {g : Nat} (hg : g < lo) (j : Nat) (u : Value) : Own (w.setCell ⟨g, j, none⟩ u) lo d v := h.grown (set_grownL w g j u) (fun q hq => by injection hq with hq; omega)
/-- one field more, made behind the others -/
theorem OwnL.snoc {lo2 : Nat} (h : OwnL w lo ds vs) (hk : w.heap.size ≤ lo2) (hb : Below w.heap.size w w') (hd : Own w' lo2 d v) (hlo : lo ≤ lo2) : OwnL w' lo (ds ++ [d]) (vs ++ [v]) := by
  obtain ⟨F, h1, h2, h3⟩ := h
  obtain ⟨G, k1, k2, k3⟩ := hd
  refine ⟨F ++ G, List.nodup_append.2 ⟨h1, k1, fun a ha b hb' e => ?_⟩, fun g hg => ?_, ?_⟩
  · subst e; have := (h2 a ha).2; have := (k2 a hb').1; omega
  · rcases List.mem_append.1 hg with hg | hg
    · exact ⟨(h2 g hg).1, Nat.lt_of_lt_of_le (h2 g hg).2 hb.size⟩
    · exact ⟨Nat.le_trans hlo (k2 g hg).1, (k2 g hg).2⟩
  · have := D.ownL.cons k3 (D.ownL.nil w')
    rw [List.append_nil] at this
    exact D.ownL.app (D.ownL.keep ds F vs (fun g hg => hb.block g (h2 g hg).2) h3) this
theorem OwnL.int (h : OwnL w lo ds vs) (n : Int) : OwnL w lo (ds ++ [.int n]) (vs ++ [.int .i64 n]) := by
  obtain ⟨F, h1, h2, h3⟩ := h
  refine ⟨F, h1, h2, ?_⟩
  have := D.ownL.app h3 (D.ownL.cons (D.own.int w n) (D.ownL.nil w))
  simpa using this
theorem OwnL.str (h : OwnL w lo ds vs) {s : ByteArray} (hs : s.size ≤ 9223372036854775807) : OwnL w lo (ds ++ [.str s]) (vs ++ [.string s]) := by
  obtain ⟨F, h1, h2, h3⟩ := h
  refine ⟨F, h1, h2, ?_⟩
  have := D.ownL.app h3 (D.ownL.cons (D.own.str w hs) (D.ownL.nil w))
  simpa using this
end

/-- a row of n structs in block H, the first k of which have been filled; their parts lie behind it -/
def FillS {α : Type} (f : α → List D) (m : Nat) (z : List Value) (E : TypeId) (w : World) (H n k : Nat) (xs : List α) : Prop :=
  ∃ us, OwnL w (H + 1) ((xs.take k).flatMap f) us ∧ w.ownsRow H E m (.slice (some ⟨H, 0, none⟩) n n) n (us ++ (List.replicate (n - k) z).flatten)
section
variable {α : Type} {f : α → List D} {m : Nat} {z : List Value} {E : TypeId} {w w' : World} {H n k : Nat} {xs : List α}
theorem FillS.start (h : w.ownsRow H E m (.slice (some ⟨H, 0, none⟩) n n) n (List.replicate n z).flatten) : FillS f m z E w H n 0 xs := ⟨[], by simpa using OwnL.nil w _, by simpa using h⟩
theorem FillS.fresh (h : FillS f m z E w H n k xs) (hb : Below w.heap.size w w') : FillS f m z E w' H n k xs := by
  obtain ⟨us, h1, h2⟩ := h
  exact ⟨us, h1.fresh hb, own_below h2 hb⟩
theorem FillS.drewN (h : FillS f m z E w H n k xs) (q : Nat) : FillS f m z E (w.drewN q) H n k xs := by
  obtain ⟨us, ⟨F, k1, k2, k3⟩, h2⟩ := h
  exact ⟨us, ⟨F, k1, k2, D.ownL.keep (w := w) (w' := w.drewN q) _ F _ (fun g _ => rfl) k3⟩, h2⟩
theorem FillS.lt (h : FillS f m z E w H n k xs) : H < w.heap.size := by
  obtain ⟨us, -, h2⟩ := h
  exact (h2.lt H rfl).2
theorem FillS.cell (h : FillS f m z E w H n k xs) (hk : k < n) (j : Nat) (hj : j < m) : ∃ u, w.cell? ⟨H, k * m + j, none⟩ = some u ∧ w.frozen? ⟨H, k * m + j, none⟩ = false := by
  obtain ⟨us, -, h2⟩ := h
  exact own_cells h2 hk j hj
/-- element k's cells have been stored, one by one -/
def setRow (w : World) (H p : Nat) : List Value → World
  | [] => w
  | v :: vs => setRow (w.setCell ⟨H, p, none⟩ v) H (p + 1) vs
theorem own_setRow {base n cap : Nat} {e : TypeId} {size : Nat} (vs : List Value) : ∀ {w : World} {cs : List Value} (p : Nat), w.ownsRow base e size (.slice (some ⟨H, 0, none⟩) n cap) n cs → (setRow w H p vs).ownsRow base e size (.slice (some ⟨H, 0, none⟩) n cap) n (setMany cs p vs) := by
  induction vs with
  | nil => intro w cs p h; exact h
  | cons v vs ih => intro w cs p h; exact ih (p + 1) (h.stored p v).1
theorem ownL_setRow {lo : Nat} {ds : List D} {us : List Value} (vs : List Value) (hH : H < lo) : ∀ {w : World} (p : Nat), OwnL w lo ds us → OwnL (setRow w H p vs) lo ds us := by
  induction vs with
  | nil => intro w p h; exact h
  | cons v vs ih => intro w p h; exact ih (p + 1) (h.set hH p v)
theorem OwnL.app {lo lo2 : Nat} {ds es : List D} {us vs : List Value} (h : OwnL w lo ds us) (hk : w.heap.size ≤ lo2) (hb : Below w.heap.size w w') (hd : OwnL w' lo2 es vs) (hlo : lo ≤ lo2) : OwnL w' lo (ds ++ es) (us ++ vs) := by
  obtain ⟨F, h1, h2, h3⟩ := h
  obtain ⟨G, k1, k2, k3⟩ := hd
  refine ⟨F ++ G, List.nodup_append.2 ⟨h1, k1, fun a ha b hb' e => ?_⟩, fun g hg => ?_, ?_⟩
  · subst e; have := (h2 a ha).2; have := (k2 a hb').1; omega
  · rcases List.mem_append.1 hg with hg | hg
    · exact ⟨(h2 g hg).1, Nat.lt_of_lt_of_le (h2 g hg).2 hb.size⟩
    · exact ⟨Nat.le_trans hlo (k2 g hg).1, (k2 g hg).2⟩
  · exact D.ownL.app (D.ownL.keep ds F us (fun g hg => hb.block g (h2 g hg).2) h3) k3
theorem FillS.step (h : FillS f m z E w H n k xs) (hf : ∀ x, (f x).length = m) (hz : z.length = m) (hk : k < xs.length) (hn : k < n) (hb : Below w.heap.size w w') {vs : List Value} (hd : OwnL w' w.heap.size (f xs[k]) vs) : FillS f m z E (setRow w' H (k * m) vs) H n (k + 1) xs := by
  have hlt := h.lt
  obtain ⟨us, h1, h2⟩ := h
  have hul : us.length = k * m := by
    obtain ⟨F, -, -, h3⟩ := h1
    rw [D.ownL.length h3, flat_lenG f m hf, List.length_take, Nat.min_eq_left (by omega)]
  have hvl : vs.length = m := by
    obtain ⟨F, -, -, h3⟩ := hd
    rw [D.ownL.length h3, hf]
  refine ⟨us ++ vs, ?_, ?_⟩
  · rw [List.take_succ_eq_append_getElem hk, List.flatMap_append]
    refine ownL_setRow vs (by omega) _ (h1.app (Nat.le_refl _) hb ?_ hlt)
    simpa using hd
  · have h3 := own_setRow vs (k * m) (own_below h2 hb)
    have e : List.replicate (n - k) z = z :: List.replicate (n - (k + 1)) z := by
      rw [← List.replicate_succ]; congr 1; omega
    rw [e, List.flatten_cons, ← List.append_assoc, ← hul, setMany_mid _ _ _ _ (by omega)] at h3
    rw [← hul]; exact h3
theorem FillS.done (h : FillS f m z E w H n n xs) (hl : xs.length = n) : Own w H (.arr m n (xs.flatMap f)) (.slice (some ⟨H, 0, none⟩) n n) := by
  obtain ⟨us, ⟨F, k1, k2, k3⟩, h2⟩ := h
  rw [List.take_of_length_le (by omega)] at k3
  rw [Nat.sub_self] at h2
  simp only [List.replicate_zero, List.flatten_nil, List.append_nil] at h2
  exact Grow.own (E := E) ⟨us, F, h2, k3, k1, fun g hg => ⟨by have := (k2 g hg).1; omega, (k2 g hg).2⟩, fun g hg hgF => by have h5 : H = g := (by injection hg); have := (k2 g hgF).1; omega⟩
end

end Go.Proofs.Ytgbkjfhmbchiiaa

namespace Go.Proofs.Ytgbkjfhmbchiiaa
set_option linter.unusedVariables false
set_option linter.unusedSimpArgs false
open Go.RowKit

theorem rd_newn {w : World} {n : Nat} (h : w.heap.size = n) (cs : List Value) (e : TypeId) : Rd (w.alloc (.cells cs.toArray e)) n (n + 1) (some ⟨n, 0, none⟩) cs := by
  subst h; exact rd_new w cs e

theorem run_app_at {P : Program} {w : World} {t e ty : TypeId} {z : Value} {size bytes base n m c lo hi : Nat} {A : Option Addr} {v : Value} {cs news : List Value} (E : ElemT P t e z size bytes)
    (hown : w.ownsRow base e size v n cs) (hr : Rd w lo hi A news) (hl : news.length = m * size) (h1 : ∀ u ∈ news, u.oneCell' = true) (h63 : n + m ≤ maxLen) (hbytes : (n + m) * bytes ≤ 140737488355328) (hbase : base ≤ w.heap.size) :
    ∃ v' w', (Builtin.append_ #[t, t] ty #[v, .slice A m c]).run P w = .ok v' w' ∧ w'.ownsRow base e size v' (n + m) (cs ++ news) ∧ w.grownBy w' v.ownBlock ∧ (v'.ownBlock = v.ownBlock ∨ v'.ownBlock = some w.heap.size) := by
  obtain ⟨i, hi, hz, hz1, hz2⟩ := info_parts E.info
  by_cases hne : news = []
  · subst hne
    have hm : m = 0 := by
      rcases Nat.eq_zero_or_pos m with h0 | h0
      · exact h0
      · have := Nat.mul_pos h0 E.pos
        simp at hl; omega
    subst hm
    rcases A with _ | ad
    · refine ⟨v, w, ?_, by simpa using hown, World.grownBy.refl w _, .inl rfl⟩
      rcases hown.2 with ⟨rfl, rfl⟩ | ⟨g, cap, cur, rfl, _, _, hnc, _⟩
      · simp [Builtin.append_, run_underlying E.under, sizeOf, typeInfo, hi, Builtin.lenOf, Builtin.firstCells]
      · simp [Builtin.append_, run_underlying E.under, sizeOf, typeInfo, hi, Builtin.lenOf, Builtin.firstCells, hnc, storeCells]
    · obtain ⟨v', w', hrun, h2, h3, _, h5⟩ := run_append_own_at (P := P) w base t ty e i z size bytes E.under hi hz hz1 hz2 E.cells E.pos v n cs hown ad 0 c [] (by simp) (by simp) (by simp) h63 hbytes hbase
      exact ⟨v', w', hrun, h2, h3, h5⟩
  · obtain ⟨b, o, rfl, _, _, hc⟩ := hr hne
    obtain ⟨v', w', hrun, h2, h3, _, h5⟩ := run_append_own_at (P := P) w base t ty e i z size bytes E.under hi hz hz1 hz2 E.cells E.pos v n cs hown ⟨b, o, none⟩ m c news hl (fun j u hu => by
      have e2 : (⟨b, o, none⟩ : Addr).add j = ⟨b, o + j, none⟩ := by
        unfold Addr.add
        by_cases hj : j = 0 <;> simp [hj]
      rw [e2]; exact hc j u hu) h1 h63 hbytes hbase
    exact ⟨v', w', hrun, h2, h3, h5⟩

theorem wpList_app_at {P : Program} {w : World} {ops : Array Oper} {rest : List Oper} {o : Oper} {a : Act} {Q : Exit → Act → World → Prop} {s x : Operand} {t e : TypeId} {z : Value} {size bytes base n m c lo hi : Nat} {A : Option Addr} {v : Value} {cs news : List Value}
    (E : ElemT P t e z size bytes) (hown : w.ownsRow base e size v n cs) (hr : Rd w lo hi A news) (hl : news.length = m * size) (h1 : ∀ u ∈ news, u.oneCell' = true) (h63 : n + m ≤ maxLen) (hbytes : (n + m) * bytes ≤ 140737488355328) (hbase : base ≤ w.heap.size)
    (hgd : Region.wanted o (yielded ops a.tmps) = true) (ho : o.op = .call { callee := .builtin .append, args := #[s, x], argTypes := #[t, t] }) (hs : a.eval s = v) (hx : a.eval x = .slice A m c)
    (h : ∀ v' w', w'.ownsRow base e size v' (n + m) (cs ++ news) → w.grownBy w' v.ownBlock → (v'.ownBlock = v.ownBlock ∨ v'.ownBlock = some w.heap.size) → wpList P ops Q rest (a.put o.dst v') w') : wpList P ops Q (o :: rest) a w :=
  wpList_step fun K hK => by
    rw [if_pos hgd]
    obtain ⟨v', w', hr, h2, h3, h5⟩ := run_app_at (P := P) (ty := o.type) (c := c) E hown hr hl h1 h63 hbytes hbase
    unfold Oper.wp execOp
    simp only [ho, resolve, invoke, builtin, Sem.run_bind, Sem.run_pure, Result.andThen_ok, List.map_toArray, List.map_cons, List.map_nil, hs, hx, hr]
    exact hK _ _ (h v' w' h2 h3 h5)

theorem step_app_at {P : Program} {w : World} {ops : Array Oper} {o : Oper} {a : Act} {K : Act → World → Prop} {Q : Exit → Act → World → Prop} {E' : Prop} {s x : Operand} {t e : TypeId} {z : Value} {size bytes base n m c lo hi : Nat} {A : Option Addr} {v : Value} {cs news : List Value}
    (E : ElemT P t e z size bytes) (hown : w.ownsRow base e size v n cs) (hr : Rd w lo hi A news) (hl : news.length = m * size) (h1 : ∀ u ∈ news, u.oneCell' = true) (h63 : n + m ≤ maxLen) (hbytes : (n + m) * bytes ≤ 140737488355328) (hbase : base ≤ w.heap.size)
    (hgd : o.guard = none) (ho : o.op = .call { callee := .builtin .append, args := #[s, x], argTypes := #[t, t] }) (hs : a.eval s = v) (hx : a.eval x = .slice A m c)
    (h : ∀ v' w', w'.ownsRow base e size v' (n + m) (cs ++ news) → w.grownBy w' v.ownBlock → (v'.ownBlock = v.ownBlock ∨ v'.ownBlock = some w.heap.size) → K (a.put o.dst v') w') :
    if Region.wanted o (yielded ops a.tmps) = true then Oper.wp P o a w K Q else E' := by
  have hw : Region.wanted o (yielded ops a.tmps) = true := by simp [Region.wanted, hgd]
  rw [if_pos hw]
  obtain ⟨v', w', hr, h2, h3, h5⟩ := run_app_at (P := P) (ty := o.type) (c := c) E hown hr hl h1 h63 hbytes hbase
  unfold Oper.wp execOp
  simp only [ho, resolve, invoke, builtin, Sem.run_bind, Sem.run_pure, Result.andThen_ok, List.map_toArray, List.map_cons, List.map_nil, hs, hx, hr]
  exact h _ _ h2 h3 h5

end Go.Proofs.Ytgbkjfhmbchiiaa

namespace Go.Proofs.Ytgbkjfhmbchiiaa
set_option linter.unusedVariables false
set_option linter.unusedSimpArgs false
open Go.RowKit

/-- a row of the call's own, and one element more whose parts have been made -/
def GrowP (w : World) (base : Nat) (E : TypeId) (m : Nat) (v : Value) (n : Nat) (es ds : List D) (us : List Value) : Prop :=
  ∃ vs F G, w.ownsRow base E m v n vs ∧ D.ownL w es F vs ∧ D.ownL w ds G us ∧ (F ++ G).Nodup ∧ (∀ g ∈ F ++ G, base ≤ g ∧ g < w.heap.size) ∧ ∀ g, v.ownBlock = some g → g ∉ F ++ G
section
variable {w w' : World} {base m n : Nat} {E : TypeId} {v v' : Value} {es ds : List D} {us : List Value}
theorem GrowP.mk_ (h : Grow w base E m v n es) (hb : Below w.heap.size w w') (hd : OwnL w' w.heap.size ds us) (hbs : base ≤ w.heap.size) : GrowP w' base E m v n es ds us := by
  obtain ⟨vs, F, h1, h2, h3, h4, h5⟩ := h
  obtain ⟨G, k1, k2, k3⟩ := hd
  refine ⟨vs, F, G, own_below h1 hb, D.ownL.keep es F vs (fun g hg => hb.block g (h4 g hg).2) h2, k3, List.nodup_append.2 ⟨h3, k1, fun a ha b hb' e => ?_⟩, fun g hg => ?_, fun g hv hg => ?_⟩
  · subst e; have := (h4 a ha).2; have := (k2 a hb').1; omega
  · rcases List.mem_append.1 hg with hg | hg
    · exact ⟨(h4 g hg).1, Nat.lt_of_lt_of_le (h4 g hg).2 hb.size⟩
    · exact ⟨Nat.le_trans hbs (k2 g hg).1, (k2 g hg).2⟩
  · rcases List.mem_append.1 hg with hg | hg
    · exact h5 g hv hg
    · have := (h1.lt g hv).2; have := (k2 g hg).1; omega
theorem GrowP.grown {row : Option Nat} (h : GrowP w base E m v n es ds us) (hg : w.grownBy w' row) (hr : ∀ g, row = some g → g < base) : GrowP w' base E m v n es ds us := by
  obtain ⟨vs, F, G, h1, h2, h3, h4, h5, h6⟩ := h
  have hk : ∀ g ∈ F ++ G, w'.heap[g]? = w.heap[g]? := fun g hg' => hg.block g (h5 g hg').2 (fun e => by have := hr g e.symm; have := (h5 g hg').1; omega)
  refine ⟨vs, F, G, h1.kept hg ?_, D.ownL.keep es F vs (fun g hg' => hk g (List.mem_append_left _ hg')) h2, D.ownL.keep ds G us (fun g hg' => hk g (List.mem_append_right _ hg')) h3, h4, fun g hg' => ⟨(h5 g hg').1, Nat.lt_of_lt_of_le (h5 g hg').2 hg.size⟩, h6⟩
  rcases hv : v.ownBlock with _ | k
  · exact .inl rfl
  · refine .inr (fun e => ?_)
    have := hr k e.symm
    have := (h1.lt k hv).1; omega
theorem GrowP.fresh (h : GrowP w base E m v n es ds us) (hb : Below w.heap.size w w') : GrowP w' base E m v n es ds us := h.grown (grown_none hb none) (fun _ e => by cases e)
theorem GrowP.alloc (h : GrowP w base E m v n es ds us) (o : Obj) : GrowP (w.alloc o) base E m v n es ds us := h.fresh ((Below.refl _ _).alloc (Nat.le_refl _) o)
theorem GrowP.set (h : GrowP w base E m v n es ds us) {g : Nat} (hg : g < base) (j : Nat) (u : Value) : GrowP (w.setCell ⟨g, j, none⟩ u) base E m v n es ds us := h.grown (set_grownL w g j u) (fun q hq => by injection hq with hq; omega)
theorem GrowP.row (h : GrowP w base E m v n es ds us) : ∃ cs, w.ownsRow base E m v n cs := by
  obtain ⟨vs, F, G, h1, _⟩ := h
  exact ⟨vs, h1⟩
theorem GrowP.part (h : GrowP w base E m v n es ds us) : OwnL w base ds us := by
  obtain ⟨vs, F, G, h1, h2, h3, h4, h5, h6⟩ := h
  exact ⟨G, (List.nodup_append.1 h4).2.1, fun g hg => h5 g (List.mem_append_right _ hg), h3⟩
/-- .. and now it has been appended -/
theorem GrowP.done {vs : List Value} {ob : Obj} {k : Nat} (h : ∃ F G, w.ownsRow base E m v n vs ∧ D.ownL w es F vs ∧ D.ownL w ds G us ∧ (F ++ G).Nodup ∧ (∀ g ∈ F ++ G, base ≤ g ∧ g < w.heap.size) ∧ ∀ g, v.ownBlock = some g → g ∉ F ++ G)
    (hown : w'.ownsRow base E m v' (n + k) (vs ++ us)) (hg : (w.alloc ob).grownBy w' v.ownBlock) (hat : v'.ownBlock = v.ownBlock ∨ v'.ownBlock = some (w.alloc ob).heap.size) : Grow w' base E m v' (n + k) (es ++ ds) := by
  obtain ⟨F, G, h1, h2, h3, h4, h5, h6⟩ := h
  have hsz : (w.alloc ob).heap.size = w.heap.size + 1 := by simp
  have hkeep : ∀ g ∈ F ++ G, w'.heap[g]? = w.heap[g]? := fun g hg' =>
    (hg.block g (by have := (h5 g hg').2; omega) (fun e => h6 g e.symm hg')).trans (Below.heap_alloc _ _ _ (h5 g hg').2)
  refine ⟨vs ++ us, F ++ G, hown, D.ownL.app (D.ownL.keep es F vs (fun g hg' => hkeep g (List.mem_append_left _ hg')) h2) (D.ownL.keep ds G us (fun g hg' => hkeep g (List.mem_append_right _ hg')) h3), h4, fun g hg' => ⟨(h5 g hg').1, Nat.lt_of_lt_of_le (h5 g hg').2 (by have := hg.size; omega)⟩, fun g hv hg' => ?_⟩
  rcases hat with hat | hat
  · exact h6 g (by rw [← hat]; exact hv) hg'
  · rw [hat] at hv
    injection hv with hv
    have := (h5 g hg').2; omega
end

end Go.Proofs.Ytgbkjfhmbchiiaa

namespace Go.Proofs.Ytgbkjfhmbchiiaa
set_option linter.unusedVariables false
set_option linter.unusedSimpArgs false
open Go.RowKit

structure Upd where
  ref : Int
  old : Int
  new_ : Int
  deriving DecidableEq

/-- an update's cells -/
def cu (u : Upd) : List Value := [.int .i64 u.ref, .int .i64 u.old, .int .i64 u.new_]
theorem cu_len (u : Upd) : (cu u).length = 3 := rfl

def rid (n : Int) : Bool := inR n (-1) 990
def ridsB (xs : List Int) : Bool := xs.all rid
def refsB (xs : List Int) : Bool := decide (xs.length = 4) && ridsB xs
/-- one update alone -/
def uokB (u : Upd) : Bool := inR u.ref 0 3 && rid u.old && rid u.new_ && !decide (u.old = u.new_)
/-- each update alone, and refs in strict order behind 'prev' -/
def updsGo : Option Int → List Upd → Bool
  | _, [] => true
  | p, u :: us => uokB u && (match p with | none => true | some q => decide (q < u.ref)) && updsGo (some u.ref) us
def updsB (us : List Upd) : Bool := updsGo none us && decide (0 < us.length)
def getR (xs : List Int) (r : Int) : Int := xs.getD r.toNat 0
def fitsR (xs : List Int) (us : List Upd) : Bool := us.all fun u => decide (getR xs u.ref = u.old)
def setR (xs : List Int) (us : List Upd) : List Int := us.foldl (fun r u => r.set u.ref.toNat u.new_) xs
/-- what RefsApply returns: refs, and whether they were turned -/
def applyL (xs : List Int) (us : List Upd) : List Int := if refsB xs = true ∧ updsB us = true then (if fitsR xs us = true then setR xs us else xs) else []
def applyB (xs : List Int) (us : List Upd) : Bool := refsB xs && updsB us && fitsR xs us
def differAt (a b : List Int) (r : Nat) : List Upd := if a.getD r 0 = b.getD r 0 then [] else [⟨r, a.getD r 0, b.getD r 0⟩]
def differL (a b : List Int) : List Upd := if refsB a = true ∧ refsB b = true then (List.range 4).flatMap (differAt a b) else []
def crossB (a b : List Upd) : Bool := updsB a && updsB b && a.any fun u => b.any fun v => decide (u.ref = v.ref)

end Go.Proofs.Ytgbkjfhmbchiiaa
