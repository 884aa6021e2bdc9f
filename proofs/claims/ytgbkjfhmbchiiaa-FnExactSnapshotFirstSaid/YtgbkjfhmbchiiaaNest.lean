/-
  Data with depth in memory: what a value reads as (numbers, texts, rows of rows), who owns the blocks it lies in, and how both are kept when other memory turns. Plain words; no condition.
-/
import Derived.Test.YtgbkjfhmbchiiaaFill
import Derived.Test.YtgbkjfhmbchiiaaApp
namespace Go.Proofs.Ytgbkjfhmbchiiaa
set_option linter.unusedVariables false
set_option linter.unusedSimpArgs false
open Go.RowKit

theorem flat_lenG {α β : Type} (f : α → List β) (m : Nat) (hf : ∀ x, (f x).length = m) (xs : List α) : (xs.flatMap f).length = xs.length * m := by
  induction xs with
  | nil => simp
  | cons x xs ih => simp [hf, ih, Nat.add_mul, Nat.add_comm]
theorem flat_getG {α β : Type} (f : α → List β) (m : Nat) (hf : ∀ x, (f x).length = m) (xs : List α) : ∀ (k : Nat) (hk : k < xs.length) (j : Nat), j < m → (xs.flatMap f)[k * m + j]? = (f xs[k])[j]? := by
  induction xs with
  | nil => intro k hk; simp at hk
  | cons x xs ih =>
    intro k hk j hj
    rw [List.flatMap_cons]
    rcases k with _ | k
    · rw [List.getElem?_append_left (by rw [hf]; omega)]; simp
    · have e : (k + 1) * m + j = (f x).length + (k * m + j) := by rw [hf, Nat.add_mul]; omega
      rw [e, List.getElem?_append_right (by omega), Nat.add_sub_cancel_left]
      simpa using ih k (by simpa using hk) j hj

/-- a datum: a number, a text, a truth value, or a row of n elements of m fields each, its fields one behind the other -/
inductive D where
  | int (n : Int)
  | str (s : ByteArray)
  | bool (b : Bool)
  | arr (m n : Nat) (es : List D)

mutual
/-- what a value reads as; all that it leads to lies in blocks from lo on and below hi -/
def D.rd (w : World) (lo hi : Nat) : D → Value → Prop
  | .int n, v => v = .int .i64 n
  | .str s, v => v = .string s ∧ s.size ≤ 9223372036854775807
  | .bool b, v => v = .bool b
  | .arr m n es, v => ∃ A c vs, v = .slice A n c ∧ n ≤ c ∧ c ≤ 9223372036854775807 ∧ es.length = n * m ∧ Rd w lo hi A vs ∧ D.rdL w lo hi es vs
def D.rdL (w : World) (lo hi : Nat) : List D → List Value → Prop
  | [], vs => vs = []
  | d :: ds, vs => ∃ v r, vs = v :: r ∧ D.rd w lo hi d v ∧ D.rdL w lo hi ds r
end

mutual
theorem D.rd.keep {w w' : World} {lo hi lo' hi' : Nat} (hk : ∀ p : Addr, lo ≤ p.block → p.block < hi → w'.cell? p = w.cell? p) (h1 : lo' ≤ lo) (h2 : hi ≤ hi') : ∀ (d : D) (v : Value), D.rd w lo hi d v → D.rd w' lo' hi' d v
  | .int n, v, h => by unfold D.rd at h ⊢; exact h
  | .str s, v, h => by unfold D.rd at h ⊢; exact h
  | .bool b, v, h => by unfold D.rd at h ⊢; exact h
  | .arr m n es, v, h => by
    unfold D.rd at h ⊢
    obtain ⟨A, c, vs, g1, g2, g3, g4, g5, g6⟩ := h
    exact ⟨A, c, vs, g1, g2, g3, g4, (g5.keep hk).more h1 h2, D.rdL.keep hk h1 h2 es vs g6⟩
theorem D.rdL.keep {w w' : World} {lo hi lo' hi' : Nat} (hk : ∀ p : Addr, lo ≤ p.block → p.block < hi → w'.cell? p = w.cell? p) (h1 : lo' ≤ lo) (h2 : hi ≤ hi') : ∀ (ds : List D) (vs : List Value), D.rdL w lo hi ds vs → D.rdL w' lo' hi' ds vs
  | [], vs, h => by unfold D.rdL at h ⊢; exact h
  | d :: ds, vs, h => by
    unfold D.rdL at h ⊢
    obtain ⟨v, r, g1, g2, g3⟩ := h
    exact ⟨v, r, g1, D.rd.keep hk h1 h2 d v g2, D.rdL.keep hk h1 h2 ds r g3⟩
end

theorem D.rdL.length {w : World} {lo hi : Nat} : ∀ {ds : List D} {vs : List Value}, D.rdL w lo hi ds vs → vs.length = ds.length
  | [], vs, h => by unfold D.rdL at h; subst h; rfl
  | d :: ds, vs, h => by
    unfold D.rdL at h
    obtain ⟨v, r, rfl, -, g3⟩ := h
    simp [D.rdL.length g3]
theorem D.rdL.get {w : World} {lo hi : Nat} : ∀ {ds : List D} {vs : List Value}, D.rdL w lo hi ds vs → ∀ {j : Nat} {d : D}, ds[j]? = some d → ∃ v, vs[j]? = some v ∧ D.rd w lo hi d v
  | [], vs, h, j, d, hd => by simp at hd
  | d :: ds, vs, h, j, d', hd => by
    unfold D.rdL at h
    obtain ⟨v, r, rfl, g2, g3⟩ := h
    rcases j with _ | j
    · simp at hd; subst hd; exact ⟨v, rfl, g2⟩
    · simp at hd; simpa using D.rdL.get g3 hd
theorem D.rdL.mk {w : World} {lo hi : Nat} : ∀ {ds : List D} {vs : List Value}, vs.length = ds.length → (∀ (j : Nat) d, ds[j]? = some d → ∃ v, vs[j]? = some v ∧ D.rd w lo hi d v) → D.rdL w lo hi ds vs
  | [], vs, h, _ => by unfold D.rdL; exact List.eq_nil_of_length_eq_zero h
  | d :: ds, [], h, _ => by simp at h
  | d :: ds, v :: vs, h, hg => by
    unfold D.rdL
    refine ⟨v, vs, rfl, ?_, D.rdL.mk (by simpa using h) fun j e he => ?_⟩
    · obtain ⟨v', h1, h2⟩ := hg 0 d rfl
      simp at h1; subst h1; exact h2
    · simpa using hg (j + 1) e (by simpa using he)

section
variable {w w' : World} {lo hi lo' hi' C : Nat} {d : D} {v : Value}
theorem D.rd.below (h : D.rd w lo hi d v) (hb : Below C w w') (hB : hi ≤ C) : D.rd w' lo hi d v := D.rd.keep (fun _ _ hp => hb.cell (Nat.lt_of_lt_of_le hp hB)) (Nat.le_refl _) (Nat.le_refl _) _ _ h
theorem D.rd.more (h : D.rd w lo hi d v) (h1 : lo' ≤ lo) (h2 : hi ≤ hi') : D.rd w lo' hi' d v := D.rd.keep (w := w) (fun _ _ _ => rfl) h1 h2 _ _ h
theorem D.rd.drewN (h : D.rd w lo hi d v) (k : Nat) : D.rd (w.drewN k) lo hi d v := D.rd.keep (w := w) (w' := w.drewN k) (fun _ _ _ => rfl) (Nat.le_refl _) (Nat.le_refl _) _ _ h
theorem D.rd.drew (h : D.rd w lo hi d v) : D.rd w.drew lo hi d v := D.rd.keep (w := w) (w' := w.drew) (fun _ _ _ => rfl) (Nat.le_refl _) (Nat.le_refl _) _ _ h
theorem D.rd.alloc (h : D.rd w lo hi d v) (hB : hi ≤ w.heap.size) (o : Obj) : D.rd (w.alloc o) lo hi d v := D.rd.keep (fun p _ hp => World.cell?_alloc_lt w o p (by omega)) (Nat.le_refl _) (Nat.le_refl _) _ _ h
theorem D.rd.setCell (h : D.rd w lo hi d v) {p : Addr} (hB : p.block < lo ∨ hi ≤ p.block) (u : Value) : D.rd (w.setCell p u) lo hi d v :=
  D.rd.keep (fun q g1 g2 => World.cell?_setCell_other w p q u (fun e => by subst e; omega)) (Nat.le_refl _) (Nat.le_refl _) _ _ h
theorem D.rd.grown (h : D.rd w lo hi d v) {row : Option Nat} (hg : w.grownBy w' row) (hB : hi ≤ w.heap.size) (hr : ∀ g, row = some g → g < lo ∨ hi ≤ g) : D.rd w' lo hi d v :=
  D.rd.keep (fun p g1 g2 => World.cell?_of_block (hg.block p.block (by omega) (fun e => by have := hr _ e.symm; omega))) (Nat.le_refl _) (Nat.le_refl _) _ _ h
theorem D.rd.fresh (h : D.rd w lo w.heap.size d v) (hb : Below w.heap.size w w') : D.rd w' lo w'.heap.size d v := (h.below hb (Nat.le_refl _)).more (Nat.le_refl _) hb.size
theorem D.rd.int_inv {n : Int} (h : D.rd w lo hi (.int n) v) : v = .int .i64 n := by unfold D.rd at h; exact h
theorem D.rd.str_inv {s : ByteArray} (h : D.rd w lo hi (.str s) v) : v = .string s ∧ s.size ≤ 9223372036854775807 := by unfold D.rd at h; exact h
theorem D.rd.bool_inv {b : Bool} (h : D.rd w lo hi (.bool b) v) : v = .bool b := by unfold D.rd at h; exact h
theorem D.rd.arr_inv {m n : Nat} {es : List D} (h : D.rd w lo hi (.arr m n es) v) : ∃ A c, v = .slice A n c ∧ n ≤ c ∧ c ≤ 9223372036854775807 ∧ D.rd w lo hi (.arr m n es) (.slice A n c) := by
  have h0 := h
  unfold D.rd at h
  obtain ⟨A, c, vs, rfl, g2, g3, _⟩ := h
  exact ⟨A, c, rfl, g2, g3, h0⟩
theorem D.rd.len {m n n' c : Nat} {A : Option Addr} {es : List D} (h : D.rd w lo hi (.arr m n es) (.slice A n' c)) : n' = n ∧ n ≤ c ∧ c ≤ 9223372036854775807 := by
  unfold D.rd at h
  obtain ⟨A, c, vs, e, g2, g3, _⟩ := h
  injection e with e1 e2 e3
  subst e2 e3
  exact ⟨rfl, g2, g3⟩
/-- the fields of element k, one by one -/
theorem D.rd.at_ {α : Type} {f : α → List D} {m n n' c : Nat} {A : Option Addr} {xs : List α} (hf : ∀ x, (f x).length = m) (hm : 0 < m) (h : D.rd w lo hi (.arr m n (xs.flatMap f)) (.slice A n' c)) {k : Nat} (hk : k < n) :
    ∃ (b o : Nat) (hl : k < xs.length), A = some ⟨b, o, none⟩ ∧ lo ≤ b ∧ b < hi ∧ ∀ j d, (f xs[k])[j]? = some d → ∃ u, w.cell? ⟨b, o + k * m + j, none⟩ = some u ∧ D.rd w lo hi d u := by
  unfold D.rd at h
  obtain ⟨A', c', vs, e, g2, g3, g4, g5, g6⟩ := h
  injection e with e1 e2 e3
  subst e1
  have hx : xs.length = n := by
    rw [flat_lenG f m hf] at g4
    exact Nat.eq_of_mul_eq_mul_right hm g4
  have hl : k < xs.length := by omega
  have hvl := D.rdL.length g6
  have hne : vs ≠ [] := by
    intro e
    subst e
    have h0 : 0 < n * m := Nat.mul_pos (by omega) hm
    rw [← hvl] at g4
    simp at g4; omega
  obtain ⟨b, o, rfl, k1, k2, hc⟩ := g5 hne
  refine ⟨b, o, hl, rfl, k1, k2, fun j d hd => ?_⟩
  have hj : j < m := by
    have := List.getElem?_eq_some_iff.1 hd
    obtain ⟨hj, _⟩ := this
    rw [hf] at hj; exact hj
  obtain ⟨u, hu, hr⟩ := D.rdL.get g6 (j := k * m + j) (d := d) (by rw [flat_getG f m hf xs k hl j hj]; exact hd)
  refine ⟨u, ?_, hr⟩
  have := hc _ _ hu
  rwa [← Nat.add_assoc] at this
end

mutual
/-- what a value reads as, all of it in blocks of its own, F, that may be written -/
def D.own (w : World) : D → List Nat → Value → Prop
  | .int n, F, v => F = [] ∧ v = .int .i64 n
  | .str s, F, v => F = [] ∧ v = .string s ∧ s.size ≤ 9223372036854775807
  | .bool b, F, v => F = [] ∧ v = .bool b
  | .arr m n es, F, v => ∃ A c vs F', v = .slice A n c ∧ n ≤ c ∧ c ≤ 9223372036854775807 ∧ es.length = n * m ∧ D.ownL w es F' vs ∧
      ((vs = [] ∧ F = F') ∨ ∃ g o, A = some ⟨g, o, none⟩ ∧ F = g :: F' ∧ ∀ j u, vs[j]? = some u → w.cell? ⟨g, o + j, none⟩ = some u ∧ w.frozen? ⟨g, o + j, none⟩ = false)
def D.ownL (w : World) : List D → List Nat → List Value → Prop
  | [], F, vs => F = [] ∧ vs = []
  | d :: ds, F, vs => ∃ v r F1 F2, vs = v :: r ∧ F = F1 ++ F2 ∧ D.own w d F1 v ∧ D.ownL w ds F2 r
end

mutual
theorem D.own.keep {w w' : World} : ∀ (d : D) (F : List Nat) (v : Value), (∀ g ∈ F, w'.heap[g]? = w.heap[g]?) → D.own w d F v → D.own w' d F v
  | .int n, F, v, _, h => by unfold D.own at h ⊢; exact h
  | .str s, F, v, _, h => by unfold D.own at h ⊢; exact h
  | .bool b, F, v, _, h => by unfold D.own at h ⊢; exact h
  | .arr m n es, F, v, hk, h => by
    unfold D.own at h ⊢
    obtain ⟨A, c, vs, F', g1, g2, g3, g4, g5, g6⟩ := h
    rcases g6 with ⟨rfl, rfl⟩ | ⟨g, o, rfl, rfl, hc⟩
    · exact ⟨A, c, _, _, g1, g2, g3, g4, D.ownL.keep es _ _ hk g5, .inl ⟨rfl, rfl⟩⟩
    · refine ⟨_, c, vs, F', g1, g2, g3, g4, D.ownL.keep es _ _ (fun q hq => hk q (List.mem_cons_of_mem _ hq)) g5, .inr ⟨g, o, rfl, rfl, fun j u hu => ?_⟩⟩
      have hg := hk g List.mem_cons_self
      exact ⟨(World.cell?_of_block hg).trans (hc j u hu).1, (World.frozen?_of_block hg).trans (hc j u hu).2⟩
theorem D.ownL.keep {w w' : World} : ∀ (ds : List D) (F : List Nat) (vs : List Value), (∀ g ∈ F, w'.heap[g]? = w.heap[g]?) → D.ownL w ds F vs → D.ownL w' ds F vs
  | [], F, vs, _, h => by unfold D.ownL at h ⊢; exact h
  | d :: ds, F, vs, hk, h => by
    unfold D.ownL at h ⊢
    obtain ⟨v, r, F1, F2, g1, rfl, g3, g4⟩ := h
    exact ⟨v, r, F1, F2, g1, rfl, D.own.keep d F1 v (fun g hg => hk g (List.mem_append_left _ hg)) g3, D.ownL.keep ds F2 r (fun g hg => hk g (List.mem_append_right _ hg)) g4⟩
end

mutual
theorem D.own.rd {w : World} {lo hi : Nat} : ∀ (d : D) (F : List Nat) (v : Value), (∀ g ∈ F, lo ≤ g ∧ g < hi) → D.own w d F v → D.rd w lo hi d v
  | .int n, F, v, _, h => by unfold D.own at h; unfold D.rd; exact h.2
  | .str s, F, v, _, h => by unfold D.own at h; unfold D.rd; exact h.2
  | .bool b, F, v, _, h => by unfold D.own at h; unfold D.rd; exact h.2
  | .arr m n es, F, v, hk, h => by
    unfold D.own at h
    unfold D.rd
    obtain ⟨A, c, vs, F', g1, g2, g3, g4, g5, g6⟩ := h
    rcases g6 with ⟨rfl, rfl⟩ | ⟨g, o, rfl, rfl, hc⟩
    · exact ⟨A, c, _, g1, g2, g3, g4, Rd.nil _ _ _ _, D.ownL.rd es _ _ hk g5⟩
    · have hg := hk g List.mem_cons_self
      exact ⟨_, c, vs, g1, g2, g3, g4, fun _ => ⟨g, o, rfl, hg.1, hg.2, fun j u hu => (hc j u hu).1⟩, D.ownL.rd es F' vs (fun q hq => hk q (List.mem_cons_of_mem _ hq)) g5⟩
theorem D.ownL.rd {w : World} {lo hi : Nat} : ∀ (ds : List D) (F : List Nat) (vs : List Value), (∀ g ∈ F, lo ≤ g ∧ g < hi) → D.ownL w ds F vs → D.rdL w lo hi ds vs
  | [], F, vs, _, h => by unfold D.ownL at h; unfold D.rdL; exact h.2
  | d :: ds, F, vs, hk, h => by
    unfold D.ownL at h
    unfold D.rdL
    obtain ⟨v, r, F1, F2, g1, rfl, g3, g4⟩ := h
    exact ⟨v, r, g1, D.own.rd d F1 v (fun g hg => hk g (List.mem_append_left _ hg)) g3, D.ownL.rd ds F2 r (fun g hg => hk g (List.mem_append_right _ hg)) g4⟩
end

theorem D.ownL.app {w : World} : ∀ {ds es : List D} {F G : List Nat} {vs us : List Value}, D.ownL w ds F vs → D.ownL w es G us → D.ownL w (ds ++ es) (F ++ G) (vs ++ us)
  | [], es, F, G, vs, us, h, k => by unfold D.ownL at h; obtain ⟨rfl, rfl⟩ := h; simpa using k
  | d :: ds, es, F, G, vs, us, h, k => by
    unfold D.ownL at h
    obtain ⟨v, r, F1, F2, rfl, rfl, g3, g4⟩ := h
    simp only [List.cons_append]
    unfold D.ownL
    exact ⟨v, r ++ us, F1, F2 ++ G, rfl, by simp, g3, D.ownL.app g4 k⟩
theorem D.ownL.nil (w : World) : D.ownL w [] [] [] := by unfold D.ownL; exact ⟨rfl, rfl⟩
theorem D.ownL.cons {w : World} {d : D} {ds : List D} {F G : List Nat} {v : Value} {vs : List Value} (h : D.own w d F v) (k : D.ownL w ds G vs) : D.ownL w (d :: ds) (F ++ G) (v :: vs) := by unfold D.ownL; exact ⟨v, vs, F, G, rfl, rfl, h, k⟩
theorem D.ownL.length {w : World} : ∀ {ds : List D} {F : List Nat} {vs : List Value}, D.ownL w ds F vs → vs.length = ds.length
  | [], F, vs, h => by unfold D.ownL at h; obtain ⟨rfl, rfl⟩ := h; rfl
  | d :: ds, F, vs, h => by
    unfold D.ownL at h
    obtain ⟨v, r, F1, F2, rfl, rfl, -, g4⟩ := h
    simp [D.ownL.length g4]
theorem D.own.int (w : World) (n : Int) : D.own w (.int n) [] (.int .i64 n) := by unfold D.own; exact ⟨rfl, rfl⟩
theorem D.own.str (w : World) {s : ByteArray} (h : s.size ≤ 9223372036854775807) : D.own w (.str s) [] (.string s) := by unfold D.own; exact ⟨rfl, rfl, h⟩
theorem D.own.bool (w : World) (b : Bool) : D.own w (.bool b) [] (.bool b) := by unfold D.own; exact ⟨rfl, rfl⟩

/-- a value in memory of its own, in blocks from lo on -/
def Own (w : World) (lo : Nat) (d : D) (v : Value) : Prop := ∃ F : List Nat, F.Nodup ∧ (∀ g ∈ F, lo ≤ g ∧ g < w.heap.size) ∧ D.own w d F v
theorem Own.rd {w : World} {lo : Nat} {d : D} {v : Value} (h : Own w lo d v) : D.rd w lo w.heap.size d v := by
  obtain ⟨F, _, h2, h3⟩ := h
  exact D.own.rd d F v h2 h3
theorem Own.grown {w w' : World} {lo : Nat} {d : D} {v : Value} {row : Option Nat} (h : Own w lo d v) (hg : w.grownBy w' row) (hr : ∀ g, row = some g → g < lo) : Own w' lo d v := by
  obtain ⟨F, h1, h2, h3⟩ := h
  refine ⟨F, h1, fun g hg' => ⟨(h2 g hg').1, Nat.lt_of_lt_of_le (h2 g hg').2 hg.size⟩, D.own.keep d F v (fun g hg' => hg.block g (h2 g hg').2 (fun e => ?_)) h3⟩
  have := hr g e.symm
  have := (h2 g hg').1; omega
theorem Own.fresh {w w' : World} {lo : Nat} {d : D} {v : Value} (h : Own w lo d v) (hb : Below w.heap.size w w') : Own w' lo d v := h.grown (grown_none hb none) (fun _ e => by cases e)
theorem Own.low {w : World} {lo lo' : Nat} {d : D} {v : Value} (h : Own w lo d v) (hl : lo' ≤ lo) : Own w lo' d v := by
  obtain ⟨F, h1, h2, h3⟩ := h
  exact ⟨F, h1, fun g hg => ⟨Nat.le_trans hl (h2 g hg).1, (h2 g hg).2⟩, h3⟩
theorem Own.drewN {w : World} {lo : Nat} {d : D} {v : Value} (h : Own w lo d v) (k : Nat) : Own (w.drewN k) lo d v := by
  obtain ⟨F, h1, h2, h3⟩ := h
  exact ⟨F, h1, h2, D.own.keep (w := w) (w' := w.drewN k) d F v (fun g _ => rfl) h3⟩

/-- a row of the call's own whose elements' parts lie in blocks of their own, from base on, apart from it -/
def Grow (w : World) (base : Nat) (E : TypeId) (m : Nat) (v : Value) (n : Nat) (es : List D) : Prop :=
  ∃ vs F, w.ownsRow base E m v n vs ∧ D.ownL w es F vs ∧ F.Nodup ∧ (∀ g ∈ F, base ≤ g ∧ g < w.heap.size) ∧ ∀ g, v.ownBlock = some g → g ∉ F
theorem Grow.nil {w : World} {base m : Nat} {E : TypeId} {v : Value} (h : w.ownsRow base E m v 0 []) : Grow w base E m v 0 [] := ⟨[], [], h, D.ownL.nil w, List.nodup_nil, fun _ h => (by cases h), fun _ _ h => (by cases h)⟩
theorem Grow.grown {w w' : World} {base m n : Nat} {E : TypeId} {v : Value} {es : List D} {row : Option Nat} (h : Grow w base E m v n es) (hg : w.grownBy w' row) (hr : ∀ g, row = some g → g < base) : Grow w' base E m v n es := by
  obtain ⟨vs, F, h1, h2, h3, h4, h5⟩ := h
  refine ⟨vs, F, h1.kept hg ?_, D.ownL.keep es F vs (fun g hg' => hg.block g (h4 g hg').2 (fun e => ?_)) h2, h3, fun g hg' => ⟨(h4 g hg').1, Nat.lt_of_lt_of_le (h4 g hg').2 hg.size⟩, h5⟩
  · rcases hv : v.ownBlock with _ | k
    · exact .inl rfl
    · refine .inr (fun e => ?_)
      have := hr k e.symm
      have := (h1.lt k hv).1; omega
  · have := hr g e.symm
    have := (h4 g hg').1; omega
theorem Grow.fresh {w w' : World} {base m n : Nat} {E : TypeId} {v : Value} {es : List D} (h : Grow w base E m v n es) (hb : Below w.heap.size w w') : Grow w' base E m v n es := h.grown (grown_none hb none) (fun _ e => by cases e)
theorem Grow.drewN {w : World} {base m n : Nat} {E : TypeId} {v : Value} {es : List D} (h : Grow w base E m v n es) (k : Nat) : Grow (w.drewN k) base E m v n es := by
  obtain ⟨vs, F, h1, h2, h3, h4, h5⟩ := h
  exact ⟨vs, F, h1, D.ownL.keep (w := w) (w' := w.drewN k) es F vs (fun g _ => rfl) h2, h3, h4, h5⟩
theorem Grow.own {w : World} {base m n : Nat} {E : TypeId} {v : Value} {es : List D} (h : Grow w base E m v n es) : Own w base (.arr m n es) v := by
  obtain ⟨vs, F, h1, h2, h3, h4, h5⟩ := h
  have hl := D.ownL.length h2
  obtain ⟨A, c, rfl, hc1, hc2, -⟩ := Rd.of_own h1
  unfold maxLen at hc2
  have hes : es.length = n * m := by rw [← hl]; exact h1.1
  rcases h1.2 with ⟨e, rfl⟩ | ⟨g, cap, cur, e, hb, hh, _⟩
  · have : vs = [] := List.eq_nil_of_length_eq_zero (by simpa using h1.1)
    subst this
    refine ⟨F, h3, h4, ?_⟩
    unfold D.own
    exact ⟨A, c, [], F, rfl, hc1, hc2, hes, h2, .inl ⟨rfl, rfl⟩⟩
  · injection e with e1 e2 e3
    subst e1
    have hgF := h5 g rfl
    refine ⟨g :: F, List.nodup_cons.2 ⟨hgF, h3⟩, fun q hq => ?_, ?_⟩
    · rcases List.mem_cons.1 hq with rfl | hq
      · exact ⟨hb, (h1.lt q rfl).2⟩
      · exact h4 q hq
    · unfold D.own
      refine ⟨_, c, vs, F, rfl, hc1, hc2, hes, h2, .inr ⟨g, 0, rfl, rfl, fun j u hu => ⟨?_, ?_⟩⟩⟩
      · have := h1.cells (g := g) rfl j u hu
        have e2 : (⟨g, 0, none⟩ : Addr).add j = ⟨g, 0 + j, none⟩ := by
          unfold Addr.add
          by_cases hj : j = 0 <;> simp [hj]
        rw [← e2]; exact this
      · exact frozen_of_row w g _ _ _ hh
/-- one element more: its parts lie in blocks that the row does not know -/
theorem Grow.app {w w1 w' : World} {base m n k : Nat} {E : TypeId} {v v' : Value} {es ds : List D} {ob : Obj} {G : List Nat} {us : List Value} (h : Grow w base E m v n es) (hd : D.ownL w ds G us) (hG : G.Nodup) (hGb : ∀ g ∈ G, base ≤ g ∧ g < w.heap.size)
    (hap : ∀ (vs : List Value) (F : List Nat), w.ownsRow base E m v n vs → D.ownL w es F vs → (∀ g ∈ F, g ∉ G)) (hvG : ∀ g, v.ownBlock = some g → g ∉ G) (e1 : w1 = w.alloc ob)
    (hown : ∀ vs, w.ownsRow base E m v n vs → w'.ownsRow base E m v' (n + k) (vs ++ us)) (hg : w1.grownBy w' v.ownBlock) (hat : v'.ownBlock = v.ownBlock ∨ v'.ownBlock = some w1.heap.size) : Grow w' base E m v' (n + k) (es ++ ds) := by
  subst e1
  obtain ⟨vs, F, h1, h2, h3, h4, h5⟩ := h
  have hap' := hap vs F h1 h2
  have hsz : (w.alloc ob).heap.size = w.heap.size + 1 := by simp
  have hkeep : ∀ g, g < w.heap.size → v.ownBlock ≠ some g → w'.heap[g]? = w.heap[g]? := fun g hlt hne =>
    (hg.block g (by omega) (fun e => hne e.symm)).trans (Below.heap_alloc _ _ _ hlt)
  refine ⟨vs ++ us, F ++ G, hown vs h1, D.ownL.app (D.ownL.keep es F vs (fun g hg' => hkeep g (h4 g hg').2 (fun e => h5 g e hg')) h2) (D.ownL.keep ds G us (fun g hg' => hkeep g (hGb g hg').2 (fun e => hvG g e hg')) hd), List.nodup_append.2 ⟨h3, hG, fun a ha b hb e => ?_⟩, fun g hg' => ?_, fun g hv hg' => ?_⟩
  · subst e; exact hap' a ha hb
  · rcases List.mem_append.1 hg' with hg' | hg'
    · exact ⟨(h4 g hg').1, Nat.lt_of_lt_of_le (h4 g hg').2 (by have := hg.size; omega)⟩
    · exact ⟨(hGb g hg').1, Nat.lt_of_lt_of_le (hGb g hg').2 (by have := hg.size; omega)⟩
  · rcases hat with hat | hat
    · rcases List.mem_append.1 hg' with hg' | hg'
      · exact h5 g (by rw [← hat]; exact hv) hg'
      · exact hvG g (by rw [← hat]; exact hv) hg'
    · rw [hat] at hv
      injection hv with hv
      rcases List.mem_append.1 hg' with hg' | hg'
      · have := (h4 g hg').2; omega
      · have := (hGb g hg').2; omega

/-- numbers -/
def intsD (xs : List Int) : D := .arr 1 xs.length (xs.map .int)
theorem ownL_ints {w : World} : ∀ (xs : List Int), D.ownL w (xs.map D.int) [] (xs.flatMap ci)
  | [] => D.ownL.nil w
  | x :: xs => by
    have := D.ownL.cons (D.own.int w x) (ownL_ints (w := w) xs)
    simpa [ci] using this
theorem rdL_ints {w : World} {lo hi : Nat} : ∀ {xs : List Int} {vs : List Value}, D.rdL w lo hi (xs.map D.int) vs → vs = xs.flatMap ci
  | [], vs, h => by simp only [List.map_nil] at h; unfold D.rdL at h; subst h; rfl
  | x :: xs, vs, h => by
    simp only [List.map_cons] at h
    unfold D.rdL at h
    obtain ⟨v, r, rfl, h2, h3⟩ := h
    rw [rdL_ints h3, h2.int_inv]; rfl
theorem D.rd.ints {w : World} {lo hi n c : Nat} {A : Option Addr} {xs : List Int} (h : D.rd w lo hi (intsD xs) (.slice A n c)) : Ints w lo hi A n xs := by
  unfold intsD D.rd at h
  obtain ⟨A', c', vs, e, g2, g3, g4, g5, g6⟩ := h
  injection e with e1 e2 e3
  subst e1 e2
  rw [rdL_ints g6] at g5
  exact ⟨rfl, g5⟩
theorem rd_ints {w : World} {lo hi n c : Nat} {A : Option Addr} {xs : List Int} (h : Ints w lo hi A n xs) (hn : n ≤ c) (hc : c ≤ 9223372036854775807) : D.rd w lo hi (intsD xs) (.slice A n c) := by
  unfold intsD D.rd
  obtain ⟨h1, h2⟩ := h
  subst h1
  refine ⟨A, c, xs.flatMap ci, rfl, hn, hc, by simp, h2, D.rdL.mk (by rw [flat_len ci 1 ci_len]; simp) fun j d hd => ?_⟩
  rw [List.getElem?_map] at hd
  rw [flat_ci, List.getElem?_map]
  rcases hx : xs[j]? with _ | x
  · rw [hx] at hd; cases hd
  · rw [hx] at hd
    injection hd with hd
    subst hd
    refine ⟨_, rfl, ?_⟩
    unfold D.rd; rfl
theorem own_ints {w : World} {base n : Nat} {E : TypeId} {v : Value} {xs : List Int} (h : w.ownsRow base E 1 v n (xs.flatMap ci)) : Own w base (intsD xs) v := by
  have hl : xs.length = n := by
    have := h.1
    rw [flat_len ci 1 ci_len] at this
    omega
  subst hl
  exact Grow.own (E := E) ⟨_, [], h, ownL_ints xs, List.nodup_nil, fun _ h => (by cases h), fun _ _ h => (by cases h)⟩

end Go.Proofs.Ytgbkjfhmbchiiaa
