/-
  Data with depth in memory of their own, when they are written to: every number and every text turned into a mark, in order; how such a reading is kept and turned cell by cell. Plain words; no condition.
  A coordinator in memory of its own: its transactions in a row that grows, with their parts and votes; its order in another row; how it is kept, grows and is written to. Plain words; no condition.
  How the arguments of a law are opened: a slice of integers that came in is nil or leads to a row of cells. No condition.
  How an argument that is a slice of structs of one-cell fields is opened to a list (after the guide's small lemmas on structs). No condition.
-/
import Derived.Test.YtgbkjfhmbchiiaaM2
import Derived.Test.YtgbkjfhmbchiiaaM4
import Derived.Test.YtgbkjfhmbchiiaaM1
import Derived.ProofKit
import Derived.OpenShut
import Derived.ShutString
import Derived.ChangeOld
import Derived.Below
import Derived.Deep.Slices
import Derived.Deep.Fields
import Derived.ChangeSame
namespace Go.Proofs.Ytgbkjfhmbchiiaa
set_option linter.unusedVariables false
set_option linter.unusedSimpArgs false
open Go.RowKit

/-- the digits of k, ahead of what is there -/
def digT (k : Nat) (s : List UInt8) : List UInt8 := if k = 0 then s else digT (k / 10) (UInt8.ofNat (48 + k % 10) :: s)
/-- the text that stands for k -/
def markT (k : Nat) : ByteArray := ⟨(109 :: digT k []).toArray⟩

mutual
/-- how many numbers and texts a datum holds -/
def D.cnt : D → Nat
  | .int _ => 1
  | .str _ => 1
  | .bool _ => 1
  | .arr _ _ es => D.cntL es
def D.cntL : List D → Nat
  | [] => 0
  | d :: ds => D.cnt d + D.cntL ds
end
mutual
/-- the same datum with k, k + 1, .. for its numbers and texts -/
def D.mark : D → Nat → D
  | .int _, k => .int k
  | .str _, k => .str (markT k)
  | .bool b, _ => .bool b
  | .arr m n es, k => .arr m n (D.markL es k)
def D.markL : List D → Nat → List D
  | [], _ => []
  | d :: ds, k => D.mark d k :: D.markL ds (k + D.cnt d)
end
theorem cnt_int (n : Int) : D.cnt (.int n) = 1 := by unfold D.cnt; rfl
theorem cnt_str (s : ByteArray) : D.cnt (.str s) = 1 := by unfold D.cnt; rfl
theorem cnt_arr (m n : Nat) (es : List D) : D.cnt (.arr m n es) = D.cntL es := by rw [D.cnt]
theorem cntL_nil : D.cntL [] = 0 := by unfold D.cntL; rfl
theorem cntL_cons (d : D) (ds : List D) : D.cntL (d :: ds) = D.cnt d + D.cntL ds := by rw [D.cntL]
theorem cntL_app (a b : List D) : D.cntL (a ++ b) = D.cntL a + D.cntL b := by
  induction a with
  | nil => rw [List.nil_append, cntL_nil]; omega
  | cons d a ih => rw [List.cons_append, cntL_cons, cntL_cons, ih]; omega
theorem mark_int (n : Int) (k : Nat) : D.mark (.int n) k = .int k := by unfold D.mark; rfl
theorem mark_str (s : ByteArray) (k : Nat) : D.mark (.str s) k = .str (markT k) := by unfold D.mark; rfl
theorem mark_arr (m n : Nat) (es : List D) (k : Nat) : D.mark (.arr m n es) k = .arr m n (D.markL es k) := by rw [D.mark]
theorem markL_nil (k : Nat) : D.markL [] k = [] := by unfold D.markL; rfl
theorem markL_cons (d : D) (ds : List D) (k : Nat) : D.markL (d :: ds) k = D.mark d k :: D.markL ds (k + D.cnt d) := by rw [D.markL]
theorem markL_app (a b : List D) (k : Nat) : D.markL (a ++ b) k = D.markL a k ++ D.markL b (k + D.cntL a) := by
  induction a generalizing k with
  | nil => rw [List.nil_append, markL_nil, cntL_nil]; rfl
  | cons d a ih => rw [List.cons_append, markL_cons, markL_cons, ih, cntL_cons, List.cons_append, Nat.add_assoc]
theorem markL_len (a : List D) (k : Nat) : (D.markL a k).length = a.length := by
  induction a generalizing k with
  | nil => rw [markL_nil]
  | cons d a ih => rw [markL_cons, List.length_cons, List.length_cons, ih]

/-- elements of m fields: the first j have been marked from k on -/
def markTo {α : Type} (f : α → List D) (xs : List α) (k j : Nat) : List D := D.markL ((xs.take j).flatMap f) k ++ (xs.drop j).flatMap f
def cntTo {α : Type} (f : α → List D) (xs : List α) (j : Nat) : Nat := D.cntL ((xs.take j).flatMap f)
section
variable {α : Type} {f : α → List D} {xs : List α} {m k j : Nat}
theorem markTo_zero : markTo f xs k 0 = xs.flatMap f := by unfold markTo; rw [List.take_zero, List.flatMap_nil, markL_nil, List.drop_zero]; rfl
theorem markTo_all {n : Nat} (hn : xs.length = n) : markTo f xs k n = D.markL (xs.flatMap f) k := by
  unfold markTo; rw [List.take_of_length_le (by omega), List.drop_eq_nil_of_le (by omega), List.flatMap_nil, List.append_nil]
theorem cntTo_zero : cntTo f xs 0 = 0 := by unfold cntTo; rw [List.take_zero, List.flatMap_nil, cntL_nil]
theorem cntTo_all {n : Nat} (hn : xs.length = n) : cntTo f xs n = D.cntL (xs.flatMap f) := by unfold cntTo; rw [List.take_of_length_le (by omega)]
theorem cntTo_succ (hj : j < xs.length) : cntTo f xs (j + 1) = cntTo f xs j + D.cntL (f xs[j]) := by
  unfold cntTo; rw [List.take_succ_eq_append_getElem hj, List.flatMap_append, cntL_app]; simp
theorem cntTo_le (hj : j ≤ xs.length) : cntTo f xs j ≤ D.cntL (xs.flatMap f) := by
  have : xs.flatMap f = (xs.take j).flatMap f ++ (xs.drop j).flatMap f := by rw [← List.flatMap_append, List.take_append_drop]
  unfold cntTo; rw [this, cntL_app]; omega
def setsD : List D → Nat → List D → List D
  | l, _, [] => l
  | l, p, v :: vs => setsD (l.set p v) (p + 1) vs
theorem setsD_mid (vs : List D) : ∀ (a zs r : List D), zs.length = vs.length → setsD (a ++ zs ++ r) a.length vs = a ++ vs ++ r := by
  induction vs with
  | nil => intro a zs r h; have : zs = [] := List.eq_nil_of_length_eq_zero h; subst this; simp [setsD]
  | cons v vs ih =>
    intro a zs r h
    rcases zs with _ | ⟨z, zs⟩
    · simp at h
    · have e : (a ++ z :: zs ++ r).set a.length v = (a ++ [v]) ++ zs ++ r := by simp [List.set_append_right]
      have := ih (a ++ [v]) zs r (by simpa using h)
      rw [setsD, e]
      simp only [List.length_append, List.length_singleton] at this
      rw [this]; simp
theorem markTo_split (hj : j < xs.length) : markTo f xs k j = D.markL ((xs.take j).flatMap f) k ++ f xs[j] ++ (xs.drop (j + 1)).flatMap f := by
  unfold markTo; rw [List.drop_eq_getElem_cons hj, List.flatMap_cons, List.append_assoc]
theorem markTo_pre (hf : ∀ x, (f x).length = m) (hj : j < xs.length) : (D.markL ((xs.take j).flatMap f) k).length = j * m := by
  rw [markL_len, flat_lenG f m hf, List.length_take, Nat.min_eq_left (by omega)]
/-- field i of element j -/
theorem markTo_get (hf : ∀ x, (f x).length = m) (hj : j < xs.length) {i : Nat} (hi : i < m) : (markTo f xs k j)[j * m + i]? = (f xs[j])[i]? := by
  rw [markTo_split hj, List.append_assoc, List.getElem?_append_right (by rw [markTo_pre hf hj]; omega), markTo_pre hf hj, Nat.add_sub_cancel_left, List.getElem?_append_left (by rw [hf]; exact hi)]
/-- all fields of element j have been set, one by one -/
theorem markTo_step (hf : ∀ x, (f x).length = m) (hj : j < xs.length) : setsD (markTo f xs k j) (j * m) (D.markL (f xs[j]) (k + cntTo f xs j)) = markTo f xs k (j + 1) := by
  have hp := markTo_pre (k := k) hf hj
  rw [markTo_split hj, ← hp, setsD_mid _ _ _ _ (by rw [markL_len])]
  unfold markTo
  rw [List.take_succ_eq_append_getElem hj, List.flatMap_append, markL_app]
  simp [cntTo]
end

/-- nothing but the blocks F and what is new has turned -/
def Chg (w w' : World) (F : List Nat) : Prop := w'.os = w.os ∧ w'.tape = w.tape ∧ w'.output = w.output ∧ w.heap.size ≤ w'.heap.size ∧ ∀ g, g < w.heap.size → g ∉ F → w'.heap[g]? = w.heap[g]?
section
variable {w w' w'' : World} {F G : List Nat}
theorem Chg.refl (w : World) (F : List Nat) : Chg w w F := ⟨rfl, rfl, rfl, Nat.le_refl _, fun _ _ _ => rfl⟩
theorem Chg.tr (h : Chg w w' F) (k : Chg w' w'' F) : Chg w w'' F :=
  ⟨k.1.trans h.1, k.2.1.trans h.2.1, k.2.2.1.trans h.2.2.1, Nat.le_trans h.2.2.2.1 k.2.2.2.1, fun g hg hn => (k.2.2.2.2 g (Nat.lt_of_lt_of_le hg h.2.2.2.1) hn).trans (h.2.2.2.2 g hg hn)⟩
theorem Chg.more (h : Chg w w' F) (hs : ∀ g ∈ F, g ∈ G) : Chg w w' G := ⟨h.1, h.2.1, h.2.2.1, h.2.2.2.1, fun g hg hn => h.2.2.2.2 g hg (fun hF => hn (hs g hF))⟩
theorem Chg.set (h : Chg w w' F) {g : Nat} (hg : g ∈ F) (j : Nat) (u : Value) : Chg w (w'.setCell ⟨g, j, none⟩ u) F :=
  ⟨h.1, h.2.1, h.2.2.1, by simpa [World.setCell] using h.2.2.2.1, fun x hx hn => (Below.heap_setCell w' ⟨g, j, none⟩ u x (fun e => hn (by rw [e]; exact hg))).trans (h.2.2.2.2 x hx hn)⟩
theorem Chg.bel (h : Chg w w' F) (hb : Below w'.heap.size w' w'') : Chg w w'' F :=
  ⟨hb.os.trans h.1, hb.tape.trans h.2.1, hb.output.trans h.2.2.1, Nat.le_trans h.2.2.2.1 hb.size, fun g hg hn => (hb.block g (Nat.lt_of_lt_of_le hg h.2.2.2.1)).trans (h.2.2.2.2 g hg hn)⟩
theorem Chg.below {C : Nat} {w0 : World} (hb : Below C w0 w) (h : Chg w w' F) (hC : C ≤ w0.heap.size) (hF : ∀ g ∈ F, C ≤ g) : Below C w0 w' :=
  hb.trans ⟨h.1, h.2.1, h.2.2.1, h.2.2.2.1, fun g hg => h.2.2.2.2 g (Nat.lt_of_lt_of_le hg (Nat.le_trans hC hb.size)) (fun hm => by have := hF g hm; omega)⟩
end

theorem own_scalar {w : World} {d : D} {F : List Nat} {v : Value} (h : D.own w d F v) (hs : (∃ n, d = .int n) ∨ ∃ s, d = .str s) : F = [] := by
  rcases hs with ⟨n, rfl⟩ | ⟨s, rfl⟩
  · unfold D.own at h; exact h.1
  · unfold D.own at h; exact h.1
theorem ownL_split {w : World} : ∀ {es : List D} {F : List Nat} {vs : List Value} {q : Nat} {d : D}, D.ownL w es F vs → es[q]? = some d →
    ∃ v F1 Fq F2, vs[q]? = some v ∧ F = F1 ++ Fq ++ F2 ∧ D.own w d Fq v ∧ ∀ (w' : World) (d' : D) (v' : Value), (∀ g ∈ F1 ++ F2, w'.heap[g]? = w.heap[g]?) → D.own w' d' Fq v' → D.ownL w' (es.set q d') F (vs.set q v')
  | [], F, vs, q, d, h, hd => by simp at hd
  | e :: es, F, vs, q, d, h, hd => by
    unfold D.ownL at h
    obtain ⟨v, r, F1, F2, rfl, rfl, h1, h2⟩ := h
    rcases q with _ | q
    · simp at hd
      subst hd
      refine ⟨v, [], F1, F2, rfl, by simp, h1, fun w' d' v' hk hd' => ?_⟩
      rw [List.set_cons_zero, List.set_cons_zero]
      unfold D.ownL
      exact ⟨v', r, F1, F2, rfl, rfl, hd', D.ownL.keep es F2 r (fun g hg => hk g (by simpa using hg)) h2⟩
    · simp at hd
      obtain ⟨u, G1, Gq, G2, k1, rfl, k3, k4⟩ := ownL_split h2 hd
      refine ⟨u, F1 ++ G1, Gq, G2, by simpa using k1, by simp, k3, fun w' d' v' hk hd' => ?_⟩
      rw [List.set_cons_succ, List.set_cons_succ]
      unfold D.ownL
      exact ⟨v, _, F1, G1 ++ Gq ++ G2, rfl, rfl, D.own.keep e F1 v (fun g hg => hk g (by simp [hg])) h1, k4 w' d' v' (fun g hg => hk g (by
        rcases List.mem_append.1 hg with hg | hg
        · simp [hg]
        · simp [hg])) hd'⟩

/-- where a row that is not empty lies -/
theorem own_row {w : World} {m n n' c : Nat} {es : List D} {F : List Nat} {A : Option Addr} (h : D.own w (.arr m n es) F (.slice A n' c)) (hn : 0 < n) (hm : 0 < m) : ∃ g o, A = some ⟨g, o, none⟩ ∧ g ∈ F := by
  unfold D.own at h
  obtain ⟨A', c', vs, F', e, h2, h3, h4, h5, h6⟩ := h
  injection e with e1 e2 e3
  subst e1
  rcases h6 with ⟨rfl, rfl⟩ | ⟨g, o, rfl, rfl, -⟩
  · have := D.ownL.length h5
    rw [h4] at this
    have h0 := Nat.mul_pos hn hm
    simp at this; omega
  · exact ⟨g, o, rfl, List.mem_cons_self⟩
theorem own_len {w : World} {m n n' c : Nat} {es : List D} {F : List Nat} {A : Option Addr} (h : D.own w (.arr m n es) F (.slice A n' c)) : n' = n ∧ n ≤ c ∧ c ≤ 9223372036854775807 ∧ es.length = n * m := by
  unfold D.own at h
  obtain ⟨A', c', vs, F', e, h2, h3, h4, _⟩ := h
  injection e with e1 e2 e3
  subst e2 e3
  exact ⟨rfl, h2, h3, h4⟩
section
variable {w w' : World} {m n n' c g o q : Nat} {es : List D} {F : List Nat} {d : D}
/-- one cell of a row: what it holds, and what the row reads as when it and what it leads to have turned -/
theorem own_sub (h : D.own w (.arr m n es) F (.slice (some ⟨g, o, none⟩) n' c)) (hF : F.Nodup) (hq : es[q]? = some d) :
    ∃ v Fq, w.cell? ⟨g, o + q, none⟩ = some v ∧ w.frozen? ⟨g, o + q, none⟩ = false ∧ D.own w d Fq v ∧ Fq.Nodup ∧ (∀ x ∈ Fq, x ∈ F) ∧ g ∈ F ∧ g ∉ Fq ∧
      (∀ (w' : World) (d' : D), Chg w w' Fq → (∀ x ∈ F, x < w.heap.size) → D.own w' d' Fq v → D.own w' (.arr m n (es.set q d')) F (.slice (some ⟨g, o, none⟩) n' c)) ∧
      (∀ (d' : D) (v' : Value), Fq = [] → (∀ W, D.own W d' [] v') → D.own (w.setCell ⟨g, o + q, none⟩ v') (.arr m n (es.set q d')) F (.slice (some ⟨g, o, none⟩) n' c)) := by
  unfold D.own at h
  obtain ⟨A', c', vs, F', e, h2, h3, h4, h5, h6⟩ := h
  injection e with e1 e2 e3
  subst e1 e2 e3
  have hvl := D.ownL.length h5
  have hql : q < es.length := (List.getElem?_eq_some_iff.1 hq).1
  rcases h6 with ⟨rfl, rfl⟩ | ⟨g', o', e', rfl, hc⟩
  · simp at hvl; omega
  · injection e' with e'
    injection e' with ea eb ec
    subst ea eb
    have hnd := List.nodup_cons.1 hF
    obtain ⟨v, F1, Fq, F2, k1, rfl, k3, k4⟩ := ownL_split h5 hq
    have hcq := hc q v k1
    have hgq : g ∉ Fq := fun hm => hnd.1 (by simp [hm])
    have hdis : ∀ x ∈ F1 ++ F2, x ∉ Fq := by
      intro x hx hxq
      have h8 := hnd.2
      rw [List.nodup_append] at h8
      obtain ⟨h8a, h8b, h8c⟩ := h8
      rw [List.nodup_append] at h8a
      rcases List.mem_append.1 hx with hx | hx
      · exact h8a.2.2 x hx x hxq rfl
      · exact h8c x (by simp [hxq]) x hx rfl
    refine ⟨v, Fq, hcq.1, hcq.2, k3, ?_, fun x hx => by simp [hx], List.mem_cons_self, hgq, fun w' d' hch hlt hd' => ?_, fun d' v' hFq hd' => ?_⟩
    · have h8 := hnd.2
      rw [List.nodup_append] at h8
      have h9 := h8.1
      rw [List.nodup_append] at h9
      exact h9.2.1
    · have hgk : w'.heap[g]? = w.heap[g]? := hch.2.2.2.2 g (hlt g List.mem_cons_self) hgq
      have h9 := k4 w' d' v (fun x hx => hch.2.2.2.2 x (hlt x (List.mem_cons_of_mem _ (by rcases List.mem_append.1 hx with hx | hx <;> simp [hx]))) (hdis x hx)) hd'
      have hset : vs.set q v = vs := by
        refine List.ext_getElem? fun i => ?_
        rw [List.getElem?_set]
        split
        · subst_vars
          split
          · exact k1.symm
          · rename_i hh; rw [List.getElem?_eq_none (by omega)]
        · rfl
      rw [hset] at h9
      unfold D.own
      exact ⟨_, c, vs, _, rfl, h2, h3, by rw [List.length_set]; exact h4, h9, .inr ⟨g, o, rfl, rfl, fun j u hu => ⟨(World.cell?_of_block hgk).trans (hc j u hu).1, (World.frozen?_of_block hgk).trans (hc j u hu).2⟩⟩⟩
    · subst hFq
      have h9 := k4 (w.setCell ⟨g, o + q, none⟩ v') d' v' (fun x hx => Below.heap_setCell _ _ _ _ (fun e => hnd.1 (by
        have e' : x = g := e
        subst e'
        rcases List.mem_append.1 hx with hx | hx <;> simp [hx]))) (hd' _)
      unfold D.own
      refine ⟨_, c, vs.set q v', _, rfl, h2, h3, by rw [List.length_set]; exact h4, h9, .inr ⟨g, o, rfl, rfl, fun j u hu => ?_⟩⟩
      have hfz : ∀ j, (w.setCell ⟨g, o + q, none⟩ v').frozen? ⟨g, o + j, none⟩ = w.frozen? ⟨g, o + j, none⟩ := fun j => by simp
      rw [hfz]
      rw [List.getElem?_set] at hu
      by_cases hj : q = j
      · subst hj
        rw [if_pos rfl, if_pos (by omega)] at hu
        injection hu with hu
        subst hu
        exact ⟨World.cell?_setCell_same _ _ _ hcq.1, hcq.2⟩
      · rw [if_neg hj] at hu
        have := hc j u hu
        refine ⟨?_, this.2⟩
        rw [World.cell?_setCell_other _ _ _ _ (fun e => hj (by injection e with _ e2; omega))]
        exact this.1
end

end Go.Proofs.Ytgbkjfhmbchiiaa

namespace Go.Proofs.Ytgbkjfhmbchiiaa
set_option linter.unusedVariables false
set_option linter.unusedSimpArgs false
open Go.RowKit

theorem flat_setG {α β : Type} {f : α → List β} {m : Nat} (hf : ∀ x, (f x).length = m) {u : β} {i : Nat} (hi : i < m) (vs : List α) : ∀ (j : Nat) (hj : j < vs.length) (y : α), (f vs[j]).set i u = f y → (vs.flatMap f).set (j * m + i) u = (vs.set j y).flatMap f := by
  induction vs with
  | nil => intro j hj; simp at hj
  | cons x vs ih =>
    intro j hj y hy
    rcases j with _ | j
    · rw [List.flatMap_cons, Nat.zero_mul, Nat.zero_add, List.set_append_left _ _ (by rw [hf]; exact hi), List.set_cons_zero, List.flatMap_cons]
      rw [← hy]; rfl
    · rw [List.flatMap_cons, List.set_cons_succ, List.flatMap_cons, List.set_append_right _ _ (by rw [hf, Nat.add_mul]; omega), hf]
      rw [show (j + 1) * m + i - m = j * m + i from by rw [Nat.add_mul]; omega, ih j (by simpa using hj) y (by simpa using hy)]

/-- its blocks lie from base on; block p is none of them -/
def CoO (w : World) (base p : Nat) (v1 : Value) (ts : List TxnD) (v2 : Value) (os : List Int) : Prop :=
  ∃ (vs : List Value) (F : List Nat), w.ownsRow base 46 3 v1 ts.length vs ∧ D.ownL w (ts.flatMap fTxn) F vs ∧ w.ownsRow base 3 1 v2 os.length (os.flatMap ci) ∧ F.Nodup ∧ (∀ g ∈ F, base ≤ g ∧ g < w.heap.size ∧ g ≠ p) ∧
    (∀ g, v1.ownBlock = some g → g ∉ F ∧ g ≠ p ∧ v2.ownBlock ≠ some g) ∧ (∀ g, v2.ownBlock = some g → g ∉ F ∧ g ≠ p)
section
variable {w w' w1 w2 : World} {base p : Nat} {v1 v2 v1' v2' : Value} {ts : List TxnD} {os : List Int}
theorem CoO.grown {row : Option Nat} (h : CoO w base p v1 ts v2 os) (hg : w.grownBy w' row) (hr : ∀ q, row = some q → q < base ∨ q = p) : CoO w' base p v1 ts v2 os := by
  obtain ⟨vs, F, h1, h2, h3, h4, h5, h6, h7⟩ := h
  have key : ∀ g, base ≤ g → g ≠ p → some g ≠ row := fun g hg1 hg2 e => by
    rcases hr g e.symm with h | h
    · omega
    · exact hg2 h
  refine ⟨vs, F, h1.kept hg ?_, D.ownL.keep _ F vs (fun g hgF => hg.block g (h5 g hgF).2.1 (key g (h5 g hgF).1 (h5 g hgF).2.2)) h2, h3.kept hg ?_, h4, fun g hgF => ⟨(h5 g hgF).1, Nat.lt_of_lt_of_le (h5 g hgF).2.1 hg.size, (h5 g hgF).2.2⟩, h6, h7⟩
  · rcases hv : v1.ownBlock with _ | k
    · exact .inl rfl
    · exact .inr (key k (h1.lt k hv).1 (h6 k hv).2.1)
  · rcases hv : v2.ownBlock with _ | k
    · exact .inl rfl
    · exact .inr (key k (h3.lt k hv).1 (h7 k hv).2)
theorem CoO.fresh (h : CoO w base p v1 ts v2 os) (hb : Below w.heap.size w w') : CoO w' base p v1 ts v2 os := h.grown (grown_none hb none) (fun _ e => by cases e)
theorem CoO.alloc (h : CoO w base p v1 ts v2 os) (o : Obj) : CoO (w.alloc o) base p v1 ts v2 os := h.fresh ((Below.refl _ _).alloc (Nat.le_refl _) o)
theorem CoO.drew (h : CoO w base p v1 ts v2 os) : CoO w.drew base p v1 ts v2 os := h.fresh (Below.refl _ _).drew
theorem CoO.box (h : CoO w base p v1 ts v2 os) (j : Nat) (u : Value) : CoO (w.setCell ⟨p, j, none⟩ u) base p v1 ts v2 os := h.grown (set_grownL w p j u) (fun q e => by injection e with e; exact .inr e.symm)
theorem CoO.low (h : CoO w base p v1 ts v2 os) {g : Nat} (hg : g < base) (j : Nat) (u : Value) : CoO (w.setCell ⟨g, j, none⟩ u) base p v1 ts v2 os := h.grown (set_grownL w g j u) (fun q e => by injection e with e; exact .inl (by omega))
theorem CoO.grow (h : CoO w base p v1 ts v2 os) : Grow w base 46 3 v1 ts.length (ts.flatMap fTxn) := by
  obtain ⟨vs, F, h1, h2, h3, h4, h5, h6, h7⟩ := h
  exact ⟨vs, F, h1, h2, h4, fun g hg => ⟨(h5 g hg).1, (h5 g hg).2.1⟩, fun g hg => (h6 g hg).1⟩
theorem CoO.rd (h : CoO w base p v1 ts v2 os) : D.rd w base w.heap.size (dTxns ts) v1 ∧ D.rd w base w.heap.size (intsD os) v2 := by
  refine ⟨h.grow.own.rd, ?_⟩
  obtain ⟨vs, F, h1, h2, h3, h4, h5, h6, h7⟩ := h
  exact (own_ints h3).rd
theorem CoO.vals (h : CoO w base p v1 ts v2 os) : ∃ A1 c1 A2 c2, v1 = .slice A1 ts.length c1 ∧ v2 = .slice A2 os.length c2 := by
  obtain ⟨vs, F, h1, h2, h3, h4, h5, h6, h7⟩ := h
  obtain ⟨A1, c1, rfl, -, -, -⟩ := Rd.of_own h1
  obtain ⟨A2, c2, rfl, -, -, -⟩ := Rd.of_own h3
  exact ⟨A1, c1, A2, c2, rfl, rfl⟩
theorem CoO.base_le {base' : Nat} (h : CoO w base p v1 ts v2 os) (hb : base' ≤ base) : CoO w base' p v1 ts v2 os := by
  have lo : ∀ {e size v n cs}, w.ownsRow base e size v n cs → w.ownsRow base' e size v n cs := fun {e size v n cs} h => by
    obtain ⟨h1, h⟩ := h
    rcases h with h | ⟨g, cap, cur, a, b, r⟩
    · exact ⟨h1, .inl h⟩
    · exact ⟨h1, .inr ⟨g, cap, cur, a, Nat.le_trans hb b, r⟩⟩
  obtain ⟨vs, F, h1, h2, h3, h4, h5, h6, h7⟩ := h
  exact ⟨vs, F, lo h1, h2, lo h3, h4, fun g hg => ⟨Nat.le_trans hb (h5 g hg).1, (h5 g hg).2⟩, h6, h7⟩
/-- another block that is none of its own -/
theorem CoO.other {q : Nat} (h : CoO w base p v1 ts v2 os) (hq : w.heap.size ≤ q ∨ q < base) : CoO w base q v1 ts v2 os := by
  obtain ⟨vs, F, h1, h2, h3, h4, h5, h6, h7⟩ := h
  refine ⟨vs, F, h1, h2, h3, h4, fun g hg => ⟨(h5 g hg).1, (h5 g hg).2.1, by have := h5 g hg; omega⟩, fun g hv => ⟨(h6 g hv).1, by have := h1.lt g hv; omega, (h6 g hv).2.2⟩, fun g hv => ⟨(h7 g hv).1, by have := h3.lt g hv; omega⟩⟩

/-- one transaction more, its parts made behind all that was there -/
theorem CoO.app {us : List Value} {t : TxnD} (h : CoO w base p v1 ts v2 os) (hb : Below w.heap.size w w1) (hd : OwnL w1 w.heap.size (fTxn t) us) (hbase : base ≤ w.heap.size) (hp : p < w.heap.size) :
    ∃ vs, w1.ownsRow base 46 3 v1 ts.length vs ∧ ∀ (w2 : World) (v1' : Value) (ob : Obj), w2.ownsRow base 46 3 v1' (ts.length + 1) (vs ++ us) → (w1.alloc ob).grownBy w2 v1.ownBlock → (v1'.ownBlock = v1.ownBlock ∨ v1'.ownBlock = some (w1.alloc ob).heap.size) → CoO w2 base p v1' (ts ++ [t]) v2 os := by
  obtain ⟨vs, F, h1, h2, h3, h4, h5, h6, h7⟩ := h
  obtain ⟨G, k1, k2, k3⟩ := hd
  refine ⟨vs, own_below h1 hb, fun w2 v1' ob hown hg hat => ?_⟩
  have hsz : (w1.alloc ob).heap.size = w1.heap.size + 1 := by simp
  have hs1 := hb.size
  have hkeep : ∀ g, g < w1.heap.size → v1.ownBlock ≠ some g → w2.heap[g]? = w1.heap[g]? := fun g hlt hne => (hg.block g (by omega) (fun e => hne e.symm)).trans (Below.heap_alloc _ _ _ hlt)
  have hFl : ∀ g ∈ F, g < w1.heap.size := fun g hgF => by have := (h5 g hgF).2.1; omega
  have hGn : ∀ g ∈ G, v1.ownBlock ≠ some g := fun g hgG e => by have := (h1.lt g e).2; have := (k2 g hgG).1; omega
  have hown' : w2.ownsRow base 46 3 v1' (ts ++ [t]).length (vs ++ us) := by simpa using hown
  refine ⟨vs ++ us, F ++ G, hown', ?_, ?_, List.nodup_append.2 ⟨h4, k1, fun a ha b hb' e => ?_⟩, fun g hgm => ?_, fun g hv => ?_, fun g hv => ?_⟩
  · rw [List.flatMap_append]
    refine D.ownL.app (D.ownL.keep _ F vs (fun g hgF => ?_) (D.ownL.keep _ F vs (fun g hgF => hb.block g (h5 g hgF).2.1) h2)) (D.ownL.keep _ G us (fun g hgG => hkeep g (k2 g hgG).2 (hGn g hgG)) (by simpa using k3))
    exact hkeep g (hFl g hgF) (fun e => (h6 g e).1 hgF)
  · refine ((own_below h3 hb).alloc ob).kept hg ?_
    rcases hv : v2.ownBlock with _ | k
    · exact .inl rfl
    · exact .inr (fun e => (h6 k e.symm).2.2 hv)
  · subst e; have := (h5 a ha).2.1; have := (k2 a hb').1; omega
  · rcases List.mem_append.1 hgm with hgm | hgm
    · exact ⟨(h5 g hgm).1, by have := hFl g hgm; have := hg.size; omega, (h5 g hgm).2.2⟩
    · exact ⟨by have := (k2 g hgm).1; omega, by have := (k2 g hgm).2; have := hg.size; omega, by have := (k2 g hgm).1; omega⟩
  · rcases hat with hat | hat
    · rw [hat] at hv
      refine ⟨fun hm => ?_, (h6 g hv).2.1, (h6 g hv).2.2⟩
      rcases List.mem_append.1 hm with hm | hm
      · exact (h6 g hv).1 hm
      · exact hGn g hm hv
    · rw [hat] at hv
      injection hv with hv
      refine ⟨fun hm => ?_, by omega, fun e => ?_⟩
      · rcases List.mem_append.1 hm with hm | hm
        · have := hFl g hm; omega
        · have := (k2 g hm).2; omega
      · have := (h3.lt g e).2; omega
  · refine ⟨fun hm => ?_, (h7 g hv).2⟩
    rcases List.mem_append.1 hm with hm | hm
    · exact (h7 g hv).1 hm
    · have := (h3.lt g hv).2; have := (k2 g hm).1; omega
theorem CoO.order (h : CoO w base p v1 ts v2 os) : w.ownsRow base 3 1 v2 os.length (os.flatMap ci) := by
  obtain ⟨vs, F, h1, h2, h3, h4, h5, h6, h7⟩ := h
  exact h3
/-- one number more in the order -/
theorem CoO.appO {x : Int} {ob : Obj} (h : CoO w base p v1 ts v2 os) (hp : p < w.heap.size) (hown : w2.ownsRow base 3 1 v2' (os.length + 1) (os.flatMap ci ++ [.int .i64 x])) (hg : (w.alloc ob).grownBy w2 v2.ownBlock)
    (hat : v2'.ownBlock = v2.ownBlock ∨ v2'.ownBlock = some (w.alloc ob).heap.size) : CoO w2 base p v1 ts v2' (os ++ [x]) := by
  obtain ⟨vs, F, h1, h2, h3, h4, h5, h6, h7⟩ := h
  have hsz : (w.alloc ob).heap.size = w.heap.size + 1 := by simp
  have hkeep : ∀ g, g < w.heap.size → v2.ownBlock ≠ some g → w2.heap[g]? = w.heap[g]? := fun g hlt hne => (hg.block g (by omega) (fun e => hne e.symm)).trans (Below.heap_alloc _ _ _ hlt)
  refine ⟨vs, F, (h1.alloc ob).kept hg ?_, D.ownL.keep _ F vs (fun g hgF => hkeep g (h5 g hgF).2.1 (fun e => (h7 g e).1 hgF)) h2, by rw [List.flatMap_append]; simpa [ci] using hown, h4, fun g hgF => ⟨(h5 g hgF).1, by have := (h5 g hgF).2.1; have := hg.size; omega, (h5 g hgF).2.2⟩, fun g hv => ?_, fun g hv => ?_⟩
  · rcases hv : v1.ownBlock with _ | k
    · exact .inl rfl
    · exact .inr (fun e => (h6 k hv).2.2 e.symm)
  · refine ⟨(h6 g hv).1, (h6 g hv).2.1, fun e => ?_⟩
    rcases hat with hat | hat
    · exact (h6 g hv).2.2 (by rw [← hat]; exact e)
    · rw [hat] at e
      injection e with e
      have := (h1.lt g hv).2; omega
  · rcases hat with hat | hat
    · rw [hat] at hv
      exact h7 g hv
    · rw [hat] at hv
      injection hv with hv
      exact ⟨fun hm => by have := (h5 g hm).2.1; omega, by omega⟩

/-- where the row of transactions lies -/
theorem CoO.at_ {A : Option Addr} {n c : Nat} (h : CoO w base p (.slice A n c) ts v2 os) (hn : 0 < n) : ∃ g, A = some ⟨g, 0, none⟩ ∧ n = ts.length ∧ g < w.heap.size ∧ g ≠ p ∧ base ≤ g := by
  obtain ⟨vs, F, h1, h2, h3, h4, h5, h6, h7⟩ := h
  have h0 := h1
  rcases h1.2 with ⟨e, -⟩ | ⟨g, cap, cur, e, hb, -⟩
  · injection e with _ e2 _; omega
  · injection e with e1 e2 e3
    subst e1
    exact ⟨g, rfl, e2, (h0.lt g rfl).2, (h6 g rfl).2.1, hb⟩
/-- the decision of a transaction is set -/
theorem CoO.setDec {g n c i : Nat} (h : CoO w base p (.slice (some ⟨g, 0, none⟩) n c) ts v2 os) (hi : i < ts.length) (x : Int) :
    (∃ u, w.cell? ⟨g, i * 3 + 2, none⟩ = some u) ∧ w.frozen? ⟨g, i * 3 + 2, none⟩ = false ∧ CoO (w.setCell ⟨g, i * 3 + 2, none⟩ (.int .i64 x)) base p (.slice (some ⟨g, 0, none⟩) n c) (ts.set i ⟨ts[i].parts, ts[i].votes, x⟩) v2 os := by
  obtain ⟨vs, F, h1, h2, h3, h4, h5, h6, h7⟩ := h
  have hn : n = ts.length := by
    rcases h1.2 with ⟨e, -⟩ | ⟨g', cap, cur, e, -⟩
    · cases e
    · injection e
  subst hn
  have hc := own_cells h1 hi 2 (by omega)
  refine ⟨⟨hc.choose, hc.choose_spec.1⟩, hc.choose_spec.2, ?_⟩
  have hst := (h1.stored (i * 3 + 2) (.int .i64 x)).1
  have hd : (ts.flatMap fTxn)[i * 3 + 2]? = some (.int ts[i].dec) := by rw [flat_getG fTxn 3 fTxn_len ts i hi 2 (by omega)]; rfl
  obtain ⟨v, F1, Fq, F2, q1, rfl, q3, q4⟩ := ownL_split h2 hd
  have hFq : Fq = [] := own_scalar q3 (.inl ⟨_, rfl⟩)
  subst hFq
  have hgF := (h6 g rfl).1
  have hset := q4 (w.setCell ⟨g, i * 3 + 2, none⟩ (.int .i64 x)) (.int x) (.int .i64 x) (fun g' hg' => Below.heap_setCell _ _ _ _ (fun e => hgF (by
    have e' : g' = g := e
    subst e'
    rcases List.mem_append.1 hg' with h | h <;> simp [h]))) (D.own.int _ _)
  rw [flat_setG fTxn_len (by omega) ts i hi ⟨ts[i].parts, ts[i].votes, x⟩ rfl] at hset
  have hgr := set_grownL w g (i * 3 + 2) (.int .i64 x)
  refine ⟨_, _, by simpa using hst, hset, h3.kept hgr ?_, h4, fun q hq => ?_, h6, h7⟩
  · rcases hv : v2.ownBlock with _ | k
    · exact .inl rfl
    · refine .inr (fun e => ?_)
      have e' : k = g := Option.some.inj e
      subst e'
      exact (h6 k rfl).2.2 hv
  · have := h5 q hq
    exact ⟨this.1, by simpa [World.setCell] using this.2.1, this.2.2⟩
/-- a vote is set -/
theorem CoO.setVote {g n c i k : Nat} (h : CoO w base p (.slice (some ⟨g, 0, none⟩) n c) ts v2 os) (hi : i < ts.length) (hk : k < ts[i].votes.length) :
    ∃ gv ov cv, w.cell? ⟨g, i * 3 + 1, none⟩ = some (.slice (some ⟨gv, ov, none⟩) ts[i].votes.length cv) ∧ w.cell? ⟨gv, ov + k, none⟩ = some (.int .i64 ts[i].votes[k]) ∧ w.frozen? ⟨gv, ov + k, none⟩ = false ∧ gv ≠ g ∧ gv ≠ p ∧ gv < w.heap.size ∧ base ≤ gv ∧
      ∀ x : Int, CoO (w.setCell ⟨gv, ov + k, none⟩ (.int .i64 x)) base p (.slice (some ⟨g, 0, none⟩) n c) (ts.set i ⟨ts[i].parts, ts[i].votes.set k x, ts[i].dec⟩) v2 os := by
  obtain ⟨vs, F, h1, h2, h3, h4, h5, h6, h7⟩ := h
  have hn : n = ts.length := by
    rcases h1.2 with ⟨e, -⟩ | ⟨g', cap, cur, e, -⟩
    · cases e
    · injection e
  subst hn
  have hd : (ts.flatMap fTxn)[i * 3 + 1]? = some (intsD ts[i].votes) := by rw [flat_getG fTxn 3 fTxn_len ts i hi 1 (by omega)]; rfl
  obtain ⟨v, F1, Fq, F2, q1, rfl, q3, q4⟩ := ownL_split h2 hd
  have hcell : w.cell? ⟨g, i * 3 + 1, none⟩ = some v := by
    have := h1.cells (g := g) rfl (i * 3 + 1) v q1
    simpa [Addr.add] using this
  have hv : ∃ A c', v = .slice A ts[i].votes.length c' := by
    unfold intsD D.own at q3
    obtain ⟨A, c', _, _, e, _⟩ := q3
    exact ⟨A, c', e⟩
  obtain ⟨A, cv, rfl⟩ := hv
  unfold intsD at q3
  obtain ⟨gv, ov, rfl, hgm⟩ := own_row q3 (by omega) (by omega)
  have hnd : Fq.Nodup := by
    have := List.nodup_append.1 h4
    exact (List.nodup_append.1 this.1).2.1
  have hes : (ts[i].votes.map D.int)[k]? = some (.int ts[i].votes[k]) := by rw [List.getElem?_map, List.getElem?_eq_getElem hk]; rfl
  obtain ⟨u, Fu, r1, r2, r3, -, -, -, -, -, r9⟩ := own_sub q3 hnd hes
  have hFu : Fu = [] := own_scalar r3 (.inl ⟨_, rfl⟩)
  subst hFu
  have hu : u = .int .i64 ts[i].votes[k] := by unfold D.own at r3; exact r3.2
  subst hu
  have hgF : gv ∈ F1 ++ Fq ++ F2 := by simp [hgm]
  have hgv := h5 gv hgF
  have hne : gv ≠ g := fun e => (h6 g rfl).1 (by rw [← e]; exact hgF)
  refine ⟨gv, ov, cv, hcell, r1, r2, hne, hgv.2.2, hgv.2.1, hgv.1, fun x => ?_⟩
  have hw := r9 (.int x) (.int .i64 x) rfl (fun W => D.own.int W x)
  rw [← List.map_set] at hw
  have hdis : ∀ y ∈ F1 ++ F2, y ≠ gv := by
    intro y hy e
    subst e
    have ha := List.nodup_append.1 h4
    have hb := List.nodup_append.1 ha.1
    rcases List.mem_append.1 hy with hy | hy
    · exact hb.2.2 y hy y hgm rfl
    · exact ha.2.2 y (by simp [hgm]) y hy rfl
  have hset := q4 (w.setCell ⟨gv, ov + k, none⟩ (.int .i64 x)) (intsD (ts[i].votes.set k x)) (.slice (some ⟨gv, ov, none⟩) ts[i].votes.length cv) (fun g' hg' => Below.heap_setCell _ _ _ _ (fun e => hdis g' hg' e)) (by
    unfold intsD
    rw [List.length_set]
    exact hw)
  rw [flat_setG fTxn_len (by omega) ts i hi ⟨ts[i].parts, ts[i].votes.set k x, ts[i].dec⟩ rfl] at hset
  have hvs : vs.set (i * 3 + 1) (.slice (some ⟨gv, ov, none⟩) ts[i].votes.length cv) = vs := by
    refine List.ext_getElem? fun j => ?_
    rw [List.getElem?_set]
    split
    · subst_vars
      split
      · exact q1.symm
      · rename_i hh; rw [List.getElem?_eq_none (by omega)]
    · rfl
  rw [hvs] at hset
  have hgr := set_grownL w gv (ov + k) (.int .i64 x)
  refine ⟨_, _, by simpa using (h1.kept hgr (.inr (fun e => hne (Option.some.inj e).symm))), hset, h3.kept hgr ?_, h4, fun q hq => ?_, h6, h7⟩
  · rcases hv2 : v2.ownBlock with _ | q
    · exact .inl rfl
    · refine .inr (fun e => ?_)
      have e' : q = gv := Option.some.inj e
      subst e'
      exact (h7 q hv2).1 hgF
  · have := h5 q hq
    exact ⟨this.1, by simpa [World.setCell] using this.2.1, this.2.2⟩
end

end Go.Proofs.Ytgbkjfhmbchiiaa

namespace Go.Proofs.Ytgbkjfhmbchiiaa
set_option linter.unusedVariables false
set_option linter.unusedSimpArgs false
open Go.ChangeShapes Go.WideShapes Go.ChangeAt Go.RowKit
open Go.ChangeMaps (open_string shut_string)

theorem Try.own : ownKnob Try.prog.godebug = none := by kernel_rfl
theorem Try.laidOut : laidOutB Try.prog = true := by kernel_rfl

/-- what is known of a slice of integers that came in: nil, or a row of 'cap' cells of which the first 'len' are its elements; each fits its kind -/
def IsRow (k : IntKind) (w : World) (a : Option Addr) (len cap : Nat) (zs : List Int) : Prop :=
  (a = none ∧ len = 0 ∧ cap = 0 ∧ zs = []) ∨
  ∃ x, a = some x ∧ len ≤ cap ∧ cap ≤ maxLen ∧ zs.length = cap ∧ (∀ i, i < zs.length → w.cell? (x.add i) = some (.int k (zs.getD i 0))) ∧ ∀ n ∈ zs, (Lit.int k n).wf = true

theorem open_row {H : Type} {enc : TypeId × Value → H} {P : Program} {w : World} {spare : Nat → Bool} {held : Bool} {t e : TypeId} {k : IntKind} (ht : P.underlying t = some (.slice e)) (he : P.underlying e = some (.int k)) (hce : P.cellsOf e = 1)
    {a : Option Addr} {len cap : Nat} {d : DataW H} {pl : List MemPlace} (h : DataW.Trod enc P w 0 spare held t (.slice a len cap) d pl) (hs : ∀ b, spare b = true) : ∃ zs, IsRow k w a len cap zs := by
  obtain ⟨fuel, hf⟩ := h
  rcases open_ints ht he hce hf with ⟨hcs, _⟩ | ⟨x, l, c, zs, hcs, _, hl, hm, hz, _, hcell, hwz⟩
  · simp [Value.cells] at hcs
    obtain ⟨rfl, rfl, rfl⟩ := hcs
    exact ⟨[], .inl ⟨rfl, rfl, rfl, rfl⟩⟩
  · simp [Value.cells] at hcs
    obtain ⟨rfl, rfl, rfl⟩ := hcs
    exact ⟨zs, .inr ⟨_, rfl, hl, hm, by simpa [hs] using hz, hcell, hwz⟩⟩

theorem IsRow.cap {k : IntKind} {w : World} {a : Option Addr} {len cap : Nat} {zs : List Int} (h : IsRow k w a len cap zs) : len ≤ cap ∧ cap ≤ maxLen := by
  rcases h with ⟨_, rfl, rfl, _⟩ | ⟨x, _, h1, h2, _⟩
  · exact ⟨Nat.le_refl _, Nat.zero_le _⟩
  · exact ⟨h1, h2⟩
theorem IsRow.bd {k : IntKind} {w : World} {a : Option Addr} {len cap : Nat} {zs : List Int} (h : IsRow k w a len cap zs) : len ≤ 9223372036854775807 := by
  have := h.cap; unfold maxLen at this; omega

/-- an integer's cell, of kind k -/
def ck (k : IntKind) (x : Int) : List Value := [.int k x]
theorem IsRow.fl {k : IntKind} {w : World} {a : Option Addr} {len cap : Nat} {zs : List Int} (h : IsRow k w a len cap zs) : Fl (ck k) w 0 w.heap.size a len (zs.take len) := by
  rcases h with ⟨rfl, rfl, rfl, rfl⟩ | ⟨x, rfl, h1, h2, hz, hc, _⟩
  · exact Fl.nil _ _ _ _ _
  · refine ⟨by rw [List.length_take]; omega, fun hne => ?_⟩
    have hl : 0 < len := by
      rcases Nat.eq_zero_or_pos len with h0 | h0
      · subst h0; exact absurd rfl hne
      · exact h0
    have h0 := hc 0 (by omega)
    have hx : x = ⟨x.block, x.off, none⟩ := by
      rcases x with ⟨b, o, _ | s⟩
      · rfl
      · simp [Addr.add, World.cell?] at h0
        split at h0 <;> simp at h0
    have hb : x.block < w.heap.size := World.block_lt_of_cell? w (x.add 0) h0
    refine ⟨x.block, x.off, by rw [← hx], Nat.zero_le _, hb, fun j u hu => ?_⟩
    have e : ((zs.take len).flatMap (ck k)) = (zs.take len).map (Value.int k) := by
      induction (zs.take len) with
      | nil => rfl
      | cons y ys ih => simp [ck, ih]
    rw [e, List.getElem?_map] at hu
    have hj : j < (zs.take len).length := by
      rcases Nat.lt_or_ge j (zs.take len).length with h | h
      · exact h
      · rw [List.getElem?_eq_none h] at hu; cases hu
    rw [List.length_take] at hj
    rw [List.getElem?_take, if_pos (by omega), List.getElem?_eq_getElem (by omega)] at hu
    injection hu with hu
    have := hc j (by omega)
    rw [List.getD_eq_getElem?_getD, List.getElem?_eq_getElem (by omega)] at this
    have e2 : x.add j = ⟨x.block, x.off + j, none⟩ := by
      unfold Addr.add
      by_cases hj0 : j = 0
      · subst hj0; rw [if_pos rfl]; exact hx
      · rw [if_neg hj0]
    rw [← e2, this, ← hu]; rfl
theorem IsRow.ints {w : World} {a : Option Addr} {len cap : Nat} {zs : List Int} (h : IsRow .i64 w a len cap zs) : Ints w 0 w.heap.size a len (zs.take len) := h.fl
theorem IsRow.wf {k : IntKind} {w : World} {a : Option Addr} {len cap : Nat} {zs : List Int} (h : IsRow k w a len cap zs) : ∀ n ∈ zs.take len, (Lit.int k n).wf = true := by
  intro n hn
  rcases h with ⟨rfl, rfl, rfl, rfl⟩ | ⟨x, rfl, h1, h2, hz, hc, hw⟩
  · cases hn
  · exact hw n (List.mem_of_mem_take hn)

end Go.Proofs.Ytgbkjfhmbchiiaa

namespace Go.Proofs.Ytgbkjfhmbchiiaa
set_option linter.unusedVariables false
set_option linter.unusedSimpArgs false
open Go.ChangeShapes Go.WideShapes Go.Deep Go.RowKit

section
variable {H : Type} {enc : TypeId × Value → H} {P : Program} {w : World} {base : Nat} {spare : Nat → Bool} {held : Bool}
theorem open_slice_fields {t e : TypeId} {fs : Array Field} {fuel : Nat} {cs : List Value} {x : DataW H × List MemPlace} (ht : P.underlying t = some (.slice e)) (he : P.underlying e = some (.struct fs))
    (hone : oneCellFields P fs = true) (hC : P.cellsOf e = fs.size) (h : DataW.trod enc P w base spare held fuel t cs = some x) :
    (cs = [.slice none 0 0] ∧ x = (.nil, [])) ∨
    ∃ (a : Addr) (len cap m : Nat) (D : Nat → DataW H) (Pl : Nat → List MemPlace), cs = [.slice (some a) len cap] ∧ base ≤ a.block ∧ len ≤ cap ∧ cap ≤ maxLen ∧ m = (if spare a.block then cap else len) ∧
      x = (.slice ((List.range len).map D) ((List.range (m - len)).map fun j => D (len + j)), MemPlace.row a (m * fs.size) ++ (List.range m).flatMap Pl) ∧
      ∀ i, i < m → ∃ (ys : List (DataW H × List MemPlace)) (n : Nat), D i = .agg (ys.map (·.1)) ∧ Pl i = ys.flatMap (·.2) ∧ ys.length = fs.size ∧
        ∀ (j : Nat) (f : Field), fs[j]? = some f → ∃ (v : Value) (y : DataW H × List MemPlace), w.cell? (a.add (i * fs.size + j)) = some v ∧ ys[j]? = some y ∧ DataW.trod enc P w base spare held n f.type [v] = some y := by
  rcases open_slice ht h with h0 | ⟨a, len, cap, m, n, D, Pl, hcs, hb, hl, hm, hmm, hx, hi⟩
  · exact .inl h0
  · refine .inr ⟨a, len, cap, m, D, Pl, hcs, hb, hl, hm, hmm, by rw [hC] at hx; exact hx, fun i him => ?_⟩
    obtain ⟨cs', hc, ht'⟩ := hi i him
    rw [hC] at hc
    obtain ⟨ys, n', hn', hy, hlen, hyl, hf⟩ := DataW.trod_struct he ht'
    obtain ⟨_, hcl, hat⟩ := World.cells?_some hc
    simp only [Prod.mk.injEq] at hy
    refine ⟨ys, n', hy.1, hy.2, hyl, fun j f hj => ?_⟩
    obtain ⟨ho, hk⟩ := hone_of hone j f hj
    have hjl : j < fs.size := (Array.getElem?_eq_some_iff.1 hj).1
    have hcell := hat j hjl
    have hv : cs'[j]? = some (cs'[j]'(by omega)) := List.getElem?_eq_getElem (by omega)
    have h1 := hf j f hj
    rw [ho, hk] at h1
    have hone' : (cs'.drop j).take 1 = [cs'[j]'(by omega)] := by
      rw [List.drop_eq_getElem_cons (by omega)]
      rfl
    rw [hone'] at h1
    have hys : ys[j]? = some (ys[j]'(by omega)) := List.getElem?_eq_getElem (by omega)
    refine ⟨_, _, ?_, hys, h1.trans hys⟩
    rw [← Go.Deep.add_add, hcell, hv]
end

theorem addr_lit {w : World} {a : Addr} {j : Nat} {v : Value} (h : w.cell? (a.add j) = some v) : a.add j = ⟨a.block, a.off + j, none⟩ := by
  rcases a with ⟨b, o, _ | s⟩
  · unfold Addr.add; by_cases hj : j = 0 <;> simp [hj]
  · by_cases hj : j = 0
    · subst hj; simp [Addr.add, World.cell?] at h; split at h <;> simp at h
    · simp [Addr.add, hj]
/-- a row behind an address whose first cell is there is a row behind a plain address -/
theorem addr_plain {w : World} {a : Addr} {v : Value} (h : w.cell? (a.add 0) = some v) : a = ⟨a.block, a.off, none⟩ := by
  have := addr_lit h
  simpa [Addr.add] using this

theorem list_of {α : Type} {P : Nat → α → Prop} (n : Nat) (h : ∀ i, i < n → ∃ x, P i x) : ∃ xs : List α, xs.length = n ∧ ∀ i (hi : i < xs.length), P i xs[i] := by
  induction n with
  | zero => exact ⟨[], rfl, fun i hi => absurd hi (by simp)⟩
  | succ n ih =>
    obtain ⟨xs, hl, hp⟩ := ih fun i hi => h i (by omega)
    obtain ⟨x, hx⟩ := h n (by omega)
    refine ⟨xs ++ [x], by simp [hl], fun i hi => ?_⟩
    by_cases hin : i < xs.length
    · rw [List.getElem_append_left hin]; exact hp i hin
    · have : i = n := by simp at hi; omega
      subst this
      rw [List.getElem_append_right (by omega)]
      simpa [hl] using hx

/-- cells that are told element by element lie in a row -/
theorem fl_of_cells {α : Type} {f : α → List Value} {m : Nat} (hf : ∀ x, (f x).length = m) (hm : 0 < m) {w : World} {a : Addr} {xs : List α}
    (h : ∀ i (hi : i < xs.length) j u, (f xs[i])[j]? = some u → w.cell? (a.add (i * m + j)) = some u) : Fl f w 0 w.heap.size (some a) xs.length xs := by
  refine ⟨rfl, fun hne => ?_⟩
  have hl : 0 < xs.length := by
    rcases xs with _ | ⟨x, xs⟩
    · exact absurd rfl hne
    · simp
  have h00 : (f xs[0])[0]? = some ((f xs[0])[0]'(by rw [hf]; exact hm)) := List.getElem?_eq_getElem _
  have hc0 := h 0 hl 0 _ h00
  simp only [Nat.zero_mul, Nat.add_zero] at hc0
  have ha := addr_plain hc0
  have hb : a.block < w.heap.size := World.block_lt_of_cell? w (a.add 0) hc0
  refine ⟨a.block, a.off, by rw [← ha], Nat.zero_le _, hb, fun j u hu => ?_⟩
  have hj : j < (xs.flatMap f).length := (List.getElem?_eq_some_iff.1 hu).1
  rw [flat_len f m hf] at hj
  have hk : j / m < xs.length := Nat.div_lt_of_lt_mul (by rw [Nat.mul_comm]; exact hj)
  have e : j = j / m * m + j % m := by rw [Nat.mul_comm]; exact (Nat.div_add_mod j m).symm
  rw [e, flat_get f m hf xs (j / m) hk (j % m) (Nat.mod_lt _ hm)] at hu
  have := h (j / m) hk (j % m) u hu
  rw [← e] at this
  rw [← addr_lit this]; exact this

end Go.Proofs.Ytgbkjfhmbchiiaa
