/-
  Data with depth in memory of their own, when they are written to: every number and every text turned into a mark, in order; how such a reading is kept and turned cell by cell. Plain words; no condition.
  A row of entries that grows beside other rows: what it needs to know of the blocks of its parts. No program in sight but types' numbers.
-/
import Derived.Test.YtnaeglfochnikaaGreatZ5
import Derived.Test.YtnaeglfochnikaaGreatMkN
import Derived.Test.YtnaeglfochnikaaGreatZ13
namespace Go.Proofs.YtnaeglfochnikaaGreat
set_option linter.unusedVariables false
set_option linter.unusedSimpArgs false
open Go.RowKit

/-- the digits of k, ahead of what is there -/
def digT (k : Nat) (s : List UInt8) : List UInt8 := if k = 0 then s else digT (k / 10) (UInt8.ofNat (48 + k % 10) :: s)
/-- the text that stands for k -/
def markT (k : Nat) : ByteArray := ⟨(109 :: digT k []).toArray⟩

mutual
/-- how many numbers and texts a datum holds -/
def D.cnt : D → Nat
  | .int _ => 1
  | .str _ => 1
  | .bool _ => 1
  | .arr _ _ es => D.cntL es
def D.cntL : List D → Nat
  | [] => 0
  | d :: ds => D.cnt d + D.cntL ds
end
mutual
/-- the same datum with k, k + 1, .. for its numbers and texts -/
def D.mark : D → Nat → D
  | .int _, k => .int k
  | .str _, k => .str (markT k)
  | .bool b, _ => .bool b
  | .arr m n es, k => .arr m n (D.markL es k)
def D.markL : List D → Nat → List D
  | [], _ => []
  | d :: ds, k => D.mark d k :: D.markL ds (k + D.cnt d)
end
theorem cnt_int (n : Int) : D.cnt (.int n) = 1 := by unfold D.cnt; rfl
theorem cnt_str (s : ByteArray) : D.cnt (.str s) = 1 := by unfold D.cnt; rfl
theorem cnt_arr (m n : Nat) (es : List D) : D.cnt (.arr m n es) = D.cntL es := by rw [D.cnt]
theorem cntL_nil : D.cntL [] = 0 := by unfold D.cntL; rfl
theorem cntL_cons (d : D) (ds : List D) : D.cntL (d :: ds) = D.cnt d + D.cntL ds := by rw [D.cntL]
theorem cntL_app (a b : List D) : D.cntL (a ++ b) = D.cntL a + D.cntL b := by
  induction a with
  | nil => rw [List.nil_append, cntL_nil]; omega
  | cons d a ih => rw [List.cons_append, cntL_cons, cntL_cons, ih]; omega
theorem mark_int (n : Int) (k : Nat) : D.mark (.int n) k = .int k := by unfold D.mark; rfl
theorem mark_str (s : ByteArray) (k : Nat) : D.mark (.str s) k = .str (markT k) := by unfold D.mark; rfl
theorem mark_arr (m n : Nat) (es : List D) (k : Nat) : D.mark (.arr m n es) k = .arr m n (D.markL es k) := by rw [D.mark]
theorem markL_nil (k : Nat) : D.markL [] k = [] := by unfold D.markL; rfl
theorem markL_cons (d : D) (ds : List D) (k : Nat) : D.markL (d :: ds) k = D.mark d k :: D.markL ds (k + D.cnt d) := by rw [D.markL]
theorem markL_app (a b : List D) (k : Nat) : D.markL (a ++ b) k = D.markL a k ++ D.markL b (k + D.cntL a) := by
  induction a generalizing k with
  | nil => rw [List.nil_append, markL_nil, cntL_nil]; rfl
  | cons d a ih => rw [List.cons_append, markL_cons, markL_cons, ih, cntL_cons, List.cons_append, Nat.add_assoc]
theorem markL_len (a : List D) (k : Nat) : (D.markL a k).length = a.length := by
  induction a generalizing k with
  | nil => rw [markL_nil]
  | cons d a ih => rw [markL_cons, List.length_cons, List.length_cons, ih]

/-- elements of m fields: the first j have been marked from k on -/
def markTo {α : Type} (f : α → List D) (xs : List α) (k j : Nat) : List D := D.markL ((xs.take j).flatMap f) k ++ (xs.drop j).flatMap f
def cntTo {α : Type} (f : α → List D) (xs : List α) (j : Nat) : Nat := D.cntL ((xs.take j).flatMap f)
section
variable {α : Type} {f : α → List D} {xs : List α} {m k j : Nat}
theorem markTo_zero : markTo f xs k 0 = xs.flatMap f := by unfold markTo; rw [List.take_zero, List.flatMap_nil, markL_nil, List.drop_zero]; rfl
theorem markTo_all {n : Nat} (hn : xs.length = n) : markTo f xs k n = D.markL (xs.flatMap f) k := by
  unfold markTo; rw [List.take_of_length_le (by omega), List.drop_eq_nil_of_le (by omega), List.flatMap_nil, List.append_nil]
theorem cntTo_zero : cntTo f xs 0 = 0 := by unfold cntTo; rw [List.take_zero, List.flatMap_nil, cntL_nil]
theorem cntTo_all {n : Nat} (hn : xs.length = n) : cntTo f xs n = D.cntL (xs.flatMap f) := by unfold cntTo; rw [List.take_of_length_le (by omega)]
theorem cntTo_succ (hj : j < xs.length) : cntTo f xs (j + 1) = cntTo f xs j + D.cntL (f xs[j]) := by
  unfold cntTo; rw [List.take_succ_eq_append_getElem hj, List.flatMap_append, cntL_app]; simp
theorem cntTo_le (hj : j ≤ xs.length) : cntTo f xs j ≤ D.cntL (xs.flatMap f) := by
  have : xs.flatMap f = (xs.take j).flatMap f ++ (xs.drop j).flatMap f := by rw [← List.flatMap_append, List.take_append_drop]
  unfold cntTo; rw [this, cntL_app]; omega
def setsD : List D → Nat → List D → List D
  | l, _, [] => l
  | l, p, v :: vs => setsD (l.set p v) (p + 1) vs
theorem setsD_mid (vs : List D) : ∀ (a zs r : List D), zs.length = vs.length → setsD (a ++ zs ++ r) a.length vs = a ++ vs ++ r := by
  induction vs with
  | nil => intro a zs r h; have : zs = [] := List.eq_nil_of_length_eq_zero h; subst this; simp [setsD]
  | cons v vs ih =>
    intro a zs r h
    rcases zs with _ | ⟨z, zs⟩
    · simp at h
    · have e : (a ++ z :: zs ++ r).set a.length v = (a ++ [v]) ++ zs ++ r := by simp [List.set_append_right]
      have := ih (a ++ [v]) zs r (by simpa using h)
      rw [setsD, e]
      simp only [List.length_append, List.length_singleton] at this
      rw [this]; simp
theorem markTo_split (hj : j < xs.length) : markTo f xs k j = D.markL ((xs.take j).flatMap f) k ++ f xs[j] ++ (xs.drop (j + 1)).flatMap f := by
  unfold markTo; rw [List.drop_eq_getElem_cons hj, List.flatMap_cons, List.append_assoc]
theorem markTo_pre (hf : ∀ x, (f x).length = m) (hj : j < xs.length) : (D.markL ((xs.take j).flatMap f) k).length = j * m := by
  rw [markL_len, flat_lenG f m hf, List.length_take, Nat.min_eq_left (by omega)]
/-- field i of element j -/
theorem markTo_get (hf : ∀ x, (f x).length = m) (hj : j < xs.length) {i : Nat} (hi : i < m) : (markTo f xs k j)[j * m + i]? = (f xs[j])[i]? := by
  rw [markTo_split hj, List.append_assoc, List.getElem?_append_right (by rw [markTo_pre hf hj]; omega), markTo_pre hf hj, Nat.add_sub_cancel_left, List.getElem?_append_left (by rw [hf]; exact hi)]
/-- all fields of element j have been set, one by one -/
theorem markTo_step (hf : ∀ x, (f x).length = m) (hj : j < xs.length) : setsD (markTo f xs k j) (j * m) (D.markL (f xs[j]) (k + cntTo f xs j)) = markTo f xs k (j + 1) := by
  have hp := markTo_pre (k := k) hf hj
  rw [markTo_split hj, ← hp, setsD_mid _ _ _ _ (by rw [markL_len])]
  unfold markTo
  rw [List.take_succ_eq_append_getElem hj, List.flatMap_append, markL_app]
  simp [cntTo]
end

/-- nothing but the blocks F and what is new has turned -/
def Chg (w w' : World) (F : List Nat) : Prop := w'.os = w.os ∧ w'.tape = w.tape ∧ w'.output = w.output ∧ w.heap.size ≤ w'.heap.size ∧ ∀ g, g < w.heap.size → g ∉ F → w'.heap[g]? = w.heap[g]?
section
variable {w w' w'' : World} {F G : List Nat}
theorem Chg.refl (w : World) (F : List Nat) : Chg w w F := ⟨rfl, rfl, rfl, Nat.le_refl _, fun _ _ _ => rfl⟩
theorem Chg.tr (h : Chg w w' F) (k : Chg w' w'' F) : Chg w w'' F :=
  ⟨k.1.trans h.1, k.2.1.trans h.2.1, k.2.2.1.trans h.2.2.1, Nat.le_trans h.2.2.2.1 k.2.2.2.1, fun g hg hn => (k.2.2.2.2 g (Nat.lt_of_lt_of_le hg h.2.2.2.1) hn).trans (h.2.2.2.2 g hg hn)⟩
theorem Chg.more (h : Chg w w' F) (hs : ∀ g ∈ F, g ∈ G) : Chg w w' G := ⟨h.1, h.2.1, h.2.2.1, h.2.2.2.1, fun g hg hn => h.2.2.2.2 g hg (fun hF => hn (hs g hF))⟩
theorem Chg.set (h : Chg w w' F) {g : Nat} (hg : g ∈ F) (j : Nat) (u : Value) : Chg w (w'.setCell ⟨g, j, none⟩ u) F :=
  ⟨h.1, h.2.1, h.2.2.1, by simpa [World.setCell] using h.2.2.2.1, fun x hx hn => (Below.heap_setCell w' ⟨g, j, none⟩ u x (fun e => hn (by rw [e]; exact hg))).trans (h.2.2.2.2 x hx hn)⟩
theorem Chg.bel (h : Chg w w' F) (hb : Below w'.heap.size w' w'') : Chg w w'' F :=
  ⟨hb.os.trans h.1, hb.tape.trans h.2.1, hb.output.trans h.2.2.1, Nat.le_trans h.2.2.2.1 hb.size, fun g hg hn => (hb.block g (Nat.lt_of_lt_of_le hg h.2.2.2.1)).trans (h.2.2.2.2 g hg hn)⟩
theorem Chg.below {C : Nat} {w0 : World} (hb : Below C w0 w) (h : Chg w w' F) (hC : C ≤ w0.heap.size) (hF : ∀ g ∈ F, C ≤ g) : Below C w0 w' :=
  hb.trans ⟨h.1, h.2.1, h.2.2.1, h.2.2.2.1, fun g hg => h.2.2.2.2 g (Nat.lt_of_lt_of_le hg (Nat.le_trans hC hb.size)) (fun hm => by have := hF g hm; omega)⟩
end

theorem own_scalar {w : World} {d : D} {F : List Nat} {v : Value} (h : D.own w d F v) (hs : (∃ n, d = .int n) ∨ ∃ s, d = .str s) : F = [] := by
  rcases hs with ⟨n, rfl⟩ | ⟨s, rfl⟩
  · unfold D.own at h; exact h.1
  · unfold D.own at h; exact h.1
theorem ownL_split {w : World} : ∀ {es : List D} {F : List Nat} {vs : List Value} {q : Nat} {d : D}, D.ownL w es F vs → es[q]? = some d →
    ∃ v F1 Fq F2, vs[q]? = some v ∧ F = F1 ++ Fq ++ F2 ∧ D.own w d Fq v ∧ ∀ (w' : World) (d' : D) (v' : Value), (∀ g ∈ F1 ++ F2, w'.heap[g]? = w.heap[g]?) → D.own w' d' Fq v' → D.ownL w' (es.set q d') F (vs.set q v')
  | [], F, vs, q, d, h, hd => by simp at hd
  | e :: es, F, vs, q, d, h, hd => by
    unfold D.ownL at h
    obtain ⟨v, r, F1, F2, rfl, rfl, h1, h2⟩ := h
    rcases q with _ | q
    · simp at hd
      subst hd
      refine ⟨v, [], F1, F2, rfl, by simp, h1, fun w' d' v' hk hd' => ?_⟩
      rw [List.set_cons_zero, List.set_cons_zero]
      unfold D.ownL
      exact ⟨v', r, F1, F2, rfl, rfl, hd', D.ownL.keep es F2 r (fun g hg => hk g (by simpa using hg)) h2⟩
    · simp at hd
      obtain ⟨u, G1, Gq, G2, k1, rfl, k3, k4⟩ := ownL_split h2 hd
      refine ⟨u, F1 ++ G1, Gq, G2, by simpa using k1, by simp, k3, fun w' d' v' hk hd' => ?_⟩
      rw [List.set_cons_succ, List.set_cons_succ]
      unfold D.ownL
      exact ⟨v, _, F1, G1 ++ Gq ++ G2, rfl, rfl, D.own.keep e F1 v (fun g hg => hk g (by simp [hg])) h1, k4 w' d' v' (fun g hg => hk g (by
        rcases List.mem_append.1 hg with hg | hg
        · simp [hg]
        · simp [hg])) hd'⟩

/-- where a row that is not empty lies -/
theorem own_row {w : World} {m n n' c : Nat} {es : List D} {F : List Nat} {A : Option Addr} (h : D.own w (.arr m n es) F (.slice A n' c)) (hn : 0 < n) (hm : 0 < m) : ∃ g o, A = some ⟨g, o, none⟩ ∧ g ∈ F := by
  unfold D.own at h
  obtain ⟨A', c', vs, F', e, h2, h3, h4, h5, h6⟩ := h
  injection e with e1 e2 e3
  subst e1
  rcases h6 with ⟨rfl, rfl⟩ | ⟨g, o, rfl, rfl, -⟩
  · have := D.ownL.length h5
    rw [h4] at this
    have h0 := Nat.mul_pos hn hm
    simp at this; omega
  · exact ⟨g, o, rfl, List.mem_cons_self⟩
theorem own_len {w : World} {m n n' c : Nat} {es : List D} {F : List Nat} {A : Option Addr} (h : D.own w (.arr m n es) F (.slice A n' c)) : n' = n ∧ n ≤ c ∧ c ≤ 9223372036854775807 ∧ es.length = n * m := by
  unfold D.own at h
  obtain ⟨A', c', vs, F', e, h2, h3, h4, _⟩ := h
  injection e with e1 e2 e3
  subst e2 e3
  exact ⟨rfl, h2, h3, h4⟩
section
variable {w w' : World} {m n n' c g o q : Nat} {es : List D} {F : List Nat} {d : D}
/-- one cell of a row: what it holds, and what the row reads as when it and what it leads to have turned -/
theorem own_sub (h : D.own w (.arr m n es) F (.slice (some ⟨g, o, none⟩) n' c)) (hF : F.Nodup) (hq : es[q]? = some d) :
    ∃ v Fq, w.cell? ⟨g, o + q, none⟩ = some v ∧ w.frozen? ⟨g, o + q, none⟩ = false ∧ D.own w d Fq v ∧ Fq.Nodup ∧ (∀ x ∈ Fq, x ∈ F) ∧ g ∈ F ∧ g ∉ Fq ∧
      (∀ (w' : World) (d' : D), Chg w w' Fq → (∀ x ∈ F, x < w.heap.size) → D.own w' d' Fq v → D.own w' (.arr m n (es.set q d')) F (.slice (some ⟨g, o, none⟩) n' c)) ∧
      (∀ (d' : D) (v' : Value), Fq = [] → (∀ W, D.own W d' [] v') → D.own (w.setCell ⟨g, o + q, none⟩ v') (.arr m n (es.set q d')) F (.slice (some ⟨g, o, none⟩) n' c)) := by
  unfold D.own at h
  obtain ⟨A', c', vs, F', e, h2, h3, h4, h5, h6⟩ := h
  injection e with e1 e2 e3
  subst e1 e2 e3
  have hvl := D.ownL.length h5
  have hql : q < es.length := (List.getElem?_eq_some_iff.1 hq).1
  rcases h6 with ⟨rfl, rfl⟩ | ⟨g', o', e', rfl, hc⟩
  · simp at hvl; omega
  · injection e' with e'
    injection e' with ea eb ec
    subst ea eb
    have hnd := List.nodup_cons.1 hF
    obtain ⟨v, F1, Fq, F2, k1, rfl, k3, k4⟩ := ownL_split h5 hq
    have hcq := hc q v k1
    have hgq : g ∉ Fq := fun hm => hnd.1 (by simp [hm])
    have hdis : ∀ x ∈ F1 ++ F2, x ∉ Fq := by
      intro x hx hxq
      have h8 := hnd.2
      rw [List.nodup_append] at h8
      obtain ⟨h8a, h8b, h8c⟩ := h8
      rw [List.nodup_append] at h8a
      rcases List.mem_append.1 hx with hx | hx
      · exact h8a.2.2 x hx x hxq rfl
      · exact h8c x (by simp [hxq]) x hx rfl
    refine ⟨v, Fq, hcq.1, hcq.2, k3, ?_, fun x hx => by simp [hx], List.mem_cons_self, hgq, fun w' d' hch hlt hd' => ?_, fun d' v' hFq hd' => ?_⟩
    · have h8 := hnd.2
      rw [List.nodup_append] at h8
      have h9 := h8.1
      rw [List.nodup_append] at h9
      exact h9.2.1
    · have hgk : w'.heap[g]? = w.heap[g]? := hch.2.2.2.2 g (hlt g List.mem_cons_self) hgq
      have h9 := k4 w' d' v (fun x hx => hch.2.2.2.2 x (hlt x (List.mem_cons_of_mem _ (by rcases List.mem_append.1 hx with hx | hx <;> simp [hx]))) (hdis x hx)) hd'
      have hset : vs.set q v = vs := by
        refine List.ext_getElem? fun i => ?_
        rw [List.getElem?_set]
        split
        · subst_vars
          split
          · exact k1.symm
          · rename_i hh; rw [List.getElem?_eq_none (by omega)]
        · rfl
      rw [hset] at h9
      unfold D.own
      exact ⟨_, c, vs, _, rfl, h2, h3, by rw [List.length_set]; exact h4, h9, .inr ⟨g, o, rfl, rfl, fun j u hu => ⟨(World.cell?_of_block hgk).trans (hc j u hu).1, (World.frozen?_of_block hgk).trans (hc j u hu).2⟩⟩⟩
    · subst hFq
      have h9 := k4 (w.setCell ⟨g, o + q, none⟩ v') d' v' (fun x hx => Below.heap_setCell _ _ _ _ (fun e => hnd.1 (by
        have e' : x = g := e
        subst e'
        rcases List.mem_append.1 hx with hx | hx <;> simp [hx]))) (hd' _)
      unfold D.own
      refine ⟨_, c, vs.set q v', _, rfl, h2, h3, by rw [List.length_set]; exact h4, h9, .inr ⟨g, o, rfl, rfl, fun j u hu => ?_⟩⟩
      have hfz : ∀ j, (w.setCell ⟨g, o + q, none⟩ v').frozen? ⟨g, o + j, none⟩ = w.frozen? ⟨g, o + j, none⟩ := fun j => by simp
      rw [hfz]
      rw [List.getElem?_set] at hu
      by_cases hj : q = j
      · subst hj
        rw [if_pos rfl, if_pos (by omega)] at hu
        injection hu with hu
        subst hu
        exact ⟨World.cell?_setCell_same _ _ _ hcq.1, hcq.2⟩
      · rw [if_neg hj] at hu
        have := hc j u hu
        refine ⟨?_, this.2⟩
        rw [World.cell?_setCell_other _ _ _ _ (fun e => hj (by injection e with _ e2; omega))]
        exact this.1
end

end Go.Proofs.YtnaeglfochnikaaGreat

namespace Go.Proofs.YtnaeglfochnikaaGreat
set_option linter.unusedVariables false
set_option linter.unusedSimpArgs false
open Go.RowKit

theorem Tryz.elPE9 : ElemT Tryz.prog 25 60 (.agg #[.int .i64 0, .slice none 0 0, .int .i64 0, .slice none 0 0]) 4 64 := ⟨Tryz.underlying25, by kernel_rfl, rfl, by decide⟩
/-- blocks that hold numbers or operations -/
def TyF (w : World) (F : List Nat) : Prop := ∀ g ∈ F, ∃ cur, w.heap[g]? = some (.cells cur 3 (0, 0)) ∨ w.heap[g]? = some (.cells cur 96 (0, 0))
theorem TyF.keep {w w' : World} {F : List Nat} (h : TyF w F) (hk : ∀ g ∈ F, w'.heap[g]? = w.heap[g]?) : TyF w' F := fun g hg => by
  obtain ⟨cur, h1⟩ := h g hg
  exact ⟨cur, by rw [hk g hg]; exact h1⟩
theorem TyF.app {w : World} {F G : List Nat} (h : TyF w F) (k : TyF w G) : TyF w (F ++ G) := fun g hg => (List.mem_append.1 hg).elim (h g) (k g)
/-- a block that holds cells of another type -/
def OthT (w : World) (g : Nat) : Prop := ∃ cur, w.heap[g]? = some (.cells cur 90 (0, 0))
theorem TyF.oth {w : World} {F : List Nat} {g : Nat} (h : TyF w F) (k : OthT w g) : g ∉ F := fun hg => by
  obtain ⟨c1, h1⟩ := h g hg
  obtain ⟨c2, h2⟩ := k
  rcases h1 with h1 | h1
  · rw [h2] at h1; injection h1 with h1; injection h1 with _ h1 _; exact absurd h1 (by decide)
  · rw [h2] at h1; injection h1 with h1; injection h1 with _ h1 _; exact absurd h1 (by decide)
theorem OthT.ne {w : World} {g b n : Nat} {v : Value} {cs : List Value} (k : OthT w g) (ho : w.ownsRow b 60 4 v n cs) : v.ownBlock ≠ some g := fun hv => by
  obtain ⟨c1, h1⟩ := own_blkP ho hv
  obtain ⟨c2, h2⟩ := k
  rw [h2] at h1; injection h1 with h1; injection h1 with _ h1 _; exact absurd h1 (by decide)
/-- a row of entries that grows, its parts in blocks of known types -/
def GrowT (w : World) (base : Nat) (v : Value) (n : Nat) (es : List D) : Prop :=
  ∃ vs F, w.ownsRow base 60 4 v n vs ∧ D.ownL w es F vs ∧ F.Nodup ∧ (∀ g ∈ F, base ≤ g ∧ g < w.heap.size) ∧ (∀ g, v.ownBlock = some g → g ∉ F) ∧ TyF w F
/-- .. with the parts of the next one beside it -/
def GrowU (w : World) (base : Nat) (v : Value) (n : Nat) (es ds : List D) (us : List Value) : Prop :=
  ∃ vs F G, w.ownsRow base 60 4 v n vs ∧ D.ownL w es F vs ∧ D.ownL w ds G us ∧ (F ++ G).Nodup ∧ (∀ g ∈ F ++ G, base ≤ g ∧ g < w.heap.size) ∧ (∀ g, v.ownBlock = some g → g ∉ F ++ G) ∧ TyF w (F ++ G)
/-- parts in blocks of known types -/
def OwnT (w : World) (lo : Nat) (ds : List D) (us : List Value) : Prop := ∃ G : List Nat, G.Nodup ∧ (∀ g ∈ G, lo ≤ g ∧ g < w.heap.size) ∧ D.ownL w ds G us ∧ TyF w G
section
variable {w w' : World} {base n : Nat} {v v' : Value} {es ds : List D} {us : List Value}
theorem GrowT.nil (w : World) (base : Nat) : GrowT w base (.slice none 0 0) 0 [] := ⟨[], [], World.ownsRow_nil w base _ 4, D.ownL.nil w, List.nodup_nil, fun _ h => (by cases h), fun _ _ h => (by cases h), fun _ h => (by cases h)⟩
theorem GrowT.grow (h : GrowT w base v n es) : Grow w base 60 4 v n es := by
  obtain ⟨vs, F, h1, h2, h3, h4, h5, -⟩ := h
  exact ⟨vs, F, h1, h2, h3, h4, h5⟩
theorem GrowT.shape (h : GrowT w base v n es) : ∃ A c, v = .slice A n c ∧ n ≤ c ∧ c ≤ 9223372036854775807 := by
  obtain ⟨vs, F, h1, -⟩ := h
  obtain ⟨A, c, rfl, h2, h3, -⟩ := Rd.of_own h1
  unfold maxLen at h3
  exact ⟨A, c, rfl, h2, h3⟩
/-- what lies below is as it was; the next one's parts lie above -/
theorem GrowU.mk_ (h : GrowT w base v n es) (hb : Below w.heap.size w w') (hd : OwnT w' w.heap.size ds us) (hbs : base ≤ w.heap.size) : GrowU w' base v n es ds us := by
  obtain ⟨vs, F, h1, h2, h3, h4, h5, h6⟩ := h
  obtain ⟨G, k1, k2, k3, k4⟩ := hd
  refine ⟨vs, F, G, own_below h1 hb, D.ownL.keep es F vs (fun g hg => hb.block g (h4 g hg).2) h2, k3, List.nodup_append.2 ⟨h3, k1, fun a ha b hb' e => ?_⟩, fun g hg => ?_, fun g hv hg => ?_, (h6.keep fun g hg => hb.block g (h4 g hg).2).app k4⟩
  · subst e; have := (h4 a ha).2; have := (k2 a hb').1; omega
  · rcases List.mem_append.1 hg with hg | hg
    · have := h4 g hg; have := hb.size; omega
    · have := k2 g hg; omega
  · rcases List.mem_append.1 hg with hg | hg
    · exact h5 g hv hg
    · have := (h1.lt g hv).2; have := (k2 g hg).1; omega
theorem GrowU.grown {row : Option Nat} (h : GrowU w base v n es ds us) (hg : w.grownBy w' row) (hr : ∀ g, row = some g → OthT w g) : GrowU w' base v n es ds us := by
  obtain ⟨vs, F, G, h1, h2, h3, h4, h5, h6, h7⟩ := h
  have hk : ∀ g ∈ F ++ G, w'.heap[g]? = w.heap[g]? := fun g hg' => hg.block g (h5 g hg').2 (fun e => h7.oth (hr g e.symm) hg')
  refine ⟨vs, F, G, h1.kept hg ?_, D.ownL.keep es F vs (fun g hg' => hk g (List.mem_append_left _ hg')) h2, D.ownL.keep ds G us (fun g hg' => hk g (List.mem_append_right _ hg')) h3, h4, fun g hg' => ⟨(h5 g hg').1, Nat.lt_of_lt_of_le (h5 g hg').2 hg.size⟩, h6, h7.keep hk⟩
  rcases hv : v.ownBlock with _ | k
  · exact .inl rfl
  · refine .inr (fun e => ?_)
    exact (hr k e.symm).ne h1 hv
theorem GrowU.alloc (h : GrowU w base v n es ds us) (o : Obj) : GrowU (w.alloc o) base v n es ds us := h.grown (World.grownBy_alloc w o none) (fun _ e => by cases e)
theorem GrowU.row (h : GrowU w base v n es ds us) : ∃ vs, w.ownsRow base 60 4 v n vs ∧ ∃ F G, w.ownsRow base 60 4 v n vs ∧ D.ownL w es F vs ∧ D.ownL w ds G us ∧ (F ++ G).Nodup ∧ (∀ g ∈ F ++ G, base ≤ g ∧ g < w.heap.size) ∧ (∀ g, v.ownBlock = some g → g ∉ F ++ G) ∧ TyF w (F ++ G) := by
  obtain ⟨vs, F, G, h1, h2⟩ := h
  exact ⟨vs, h1, F, G, h1, h2⟩
/-- .. and now it has been appended -/
theorem GrowU.done {vs : List Value} {ob : Obj} {k : Nat} (h : ∃ F G, w.ownsRow base 60 4 v n vs ∧ D.ownL w es F vs ∧ D.ownL w ds G us ∧ (F ++ G).Nodup ∧ (∀ g ∈ F ++ G, base ≤ g ∧ g < w.heap.size) ∧ (∀ g, v.ownBlock = some g → g ∉ F ++ G) ∧ TyF w (F ++ G))
    (hown : w'.ownsRow base 60 4 v' (n + k) (vs ++ us)) (hg : (w.alloc ob).grownBy w' v.ownBlock) (hat : v'.ownBlock = v.ownBlock ∨ v'.ownBlock = some (w.alloc ob).heap.size) : GrowT w' base v' (n + k) (es ++ ds) := by
  obtain ⟨F, G, h1, h2, h3, h4, h5, h6, h7⟩ := h
  have hsz : (w.alloc ob).heap.size = w.heap.size + 1 := by simp
  have hkeep : ∀ g ∈ F ++ G, w'.heap[g]? = w.heap[g]? := fun g hg' =>
    (hg.block g (by have := (h5 g hg').2; omega) (fun e => h6 g e.symm hg')).trans (Below.heap_alloc _ _ _ (h5 g hg').2)
  refine ⟨vs ++ us, F ++ G, hown, D.ownL.app (D.ownL.keep es F vs (fun g hg' => hkeep g (List.mem_append_left _ hg')) h2) (D.ownL.keep ds G us (fun g hg' => hkeep g (List.mem_append_right _ hg')) h3), h4, fun g hg' => ⟨(h5 g hg').1, Nat.lt_of_lt_of_le (h5 g hg').2 (by have := hg.size; omega)⟩, fun g hv hg' => ?_, h7.keep hkeep⟩
  rcases hat with hat | hat
  · exact h6 g (by rw [← hat]; exact hv) hg'
  · rw [hat] at hv
    injection hv with hv
    have := (h5 g hg').2; omega
theorem row_own9 {m : Nat} {E : TypeId} {vs : List Value} (h1 : w.ownsRow base E m v n vs) (h2 : D.ownL w es [] vs) : ∃ F : List Nat, F.Nodup ∧ (∀ g ∈ F, v.ownBlock = some g) ∧ D.own w (.arr m n es) F v := by
  have hl := D.ownL.length h2
  obtain ⟨A, c, rfl, hc1, hc2, -⟩ := Rd.of_own h1
  unfold maxLen at hc2
  have hes : es.length = n * m := by rw [← hl]; exact h1.1
  rcases h1.2 with ⟨e, rfl⟩ | ⟨g, cap, cur, e, hb, hh, _⟩
  · have : vs = [] := List.eq_nil_of_length_eq_zero (by simpa using h1.1)
    subst this
    refine ⟨[], List.nodup_nil, fun _ h => (by cases h), ?_⟩
    unfold D.own
    exact ⟨A, c, [], [], rfl, hc1, hc2, hes, h2, .inl ⟨rfl, rfl⟩⟩
  · injection e with e1 e2 e3
    subst e1
    refine ⟨[g], by simp, fun q hq => by rw [List.mem_singleton.1 hq]; rfl, ?_⟩
    unfold D.own
    refine ⟨_, c, vs, [], rfl, hc1, hc2, hes, h2, .inr ⟨g, 0, rfl, rfl, fun j u hu => ⟨?_, ?_⟩⟩⟩
    · have := h1.cells (g := g) rfl j u hu
      have e2 : (⟨g, 0, none⟩ : Addr).add j = ⟨g, 0 + j, none⟩ := by
        unfold Addr.add
        by_cases hj : j = 0 <;> simp [hj]
      rw [← e2]; exact this
    · exact frozen_of_row w g _ _ _ hh
theorem ownL_ops9 {w : World} : ∀ (xs : List OpD), (∀ o ∈ xs, o.text.size ≤ 9223372036854775807) → D.ownL w (xs.flatMap fOp) [] (xs.flatMap co)
  | [], _ => D.ownL.nil w
  | x :: xs, h => by
    have h1 := D.ownL.cons (D.own.int w x.at_) (D.ownL.cons (D.own.int w x.size) (D.ownL.cons (D.own.str w (h x (List.mem_cons_self ..))) (ownL_ops9 (w := w) xs (fun o ho => h o (List.mem_cons_of_mem _ ho)))))
    simpa [co, fOp] using h1
/-- an entry's parts in memory of their own -/
theorem OwnT.ent {lo lo1 lo2 nk d n5 c5 : Nat} {kind r : Int} {links : List Int} {xs : List OpD} {B A5 : Option Addr} (hl1 : lo ≤ lo1) (hl2 : lo ≤ lo2) (h1 : w.ownsRow lo1 3 1 (.slice B nk d) nk (links.flatMap ci)) (h2 : w.ownsRow lo2 96 3 (.slice A5 n5 c5) n5 (xs.flatMap co)) (ht : ∀ o ∈ xs, o.text.size ≤ 8) :
    OwnT w lo (fPackEntry ⟨kind, links, r, xs⟩) [.int .i64 kind, .slice B nk d, .int .i64 r, .slice A5 n5 c5] := by
  obtain ⟨F, f1, f2, f3⟩ := row_own9 h1 (ownL_ints links)
  obtain ⟨G, g1, g2, g3⟩ := row_own9 h2 (ownL_ops9 xs (fun o ho => by have := ht o ho; omega))
  have e1 : links.length = nk := by have := h1.1; rw [flat_len ci 1 ci_len] at this; omega
  have e2 : xs.length = n5 := by have := h2.1; rw [flat_len co 3 co_len] at this; omega
  subst e1 e2
  refine ⟨F ++ G, List.nodup_append.2 ⟨f1, g1, fun a ha b hb e => ?_⟩, fun g hg => ?_, ?_, TyF.app (fun g hg => ?_) (fun g hg => ?_)⟩
  · subst e
    obtain ⟨c1, y1⟩ := own_blkP h1 (f2 a ha)
    obtain ⟨c2, y2⟩ := own_blkP h2 (g2 a hb)
    rw [y1] at y2
    injection y2 with y2
    injection y2 with _ y3
    exact absurd y3 (by decide)
  · rcases List.mem_append.1 hg with hg | hg
    · have := h1.lt g (f2 g hg); omega
    · have := h2.lt g (g2 g hg); omega
  · have := D.ownL.cons (D.own.int w kind) (D.ownL.cons (show D.own w (intsD links) F _ from f3) (D.ownL.cons (D.own.int w r) (D.ownL.cons (show D.own w (dOps xs) G _ from g3) (D.ownL.nil w))))
    simpa [fPackEntry] using this
  · obtain ⟨c1, y1⟩ := own_blkP h1 (f2 g hg)
    exact ⟨c1, .inl y1⟩
  · obtain ⟨c1, y1⟩ := own_blkP h2 (g2 g hg)
    exact ⟨c1, .inr y1⟩
end

end Go.Proofs.YtnaeglfochnikaaGreat
