/-
  Data with depth in memory of their own, when they are written to: every number and every text turned into a mark, in order; how such a reading is kept and turned cell by cell. Plain words; no condition.
  The walk of markText: the text that stands for a number; and how a marked row is read. Condition: the number is positive and small.
  Plain words for a law about results with depth: intervals of blocks, what a mark leaves of other data, and how many numbers a datum holds. No condition.
  The walks of markIntS and heldIntS: numbers and texts are turned into marks; such marks are told. Condition: few elements, small marks.
-/
import Derived.Test.YtnaeglfochnikaaM4
import Derived.Test.YtnaeglfochnikaaM3
import Derived.Deep.RegionHeld3
namespace Go.Proofs.Ytnaeglfochnikaa
set_option linter.unusedVariables false
set_option linter.unusedSimpArgs false
open Go.RowKit

/-- the digits of k, ahead of what is there -/
def digT (k : Nat) (s : List UInt8) : List UInt8 := if k = 0 then s else digT (k / 10) (UInt8.ofNat (48 + k % 10) :: s)
/-- the text that stands for k -/
def markT (k : Nat) : ByteArray := ⟨(109 :: digT k []).toArray⟩

mutual
/-- how many numbers and texts a datum holds -/
def D.cnt : D → Nat
  | .int _ => 1
  | .str _ => 1
  | .bool _ => 1
  | .arr _ _ es => D.cntL es
def D.cntL : List D → Nat
  | [] => 0
  | d :: ds => D.cnt d + D.cntL ds
end
mutual
/-- the same datum with k, k + 1, .. for its numbers and texts -/
def D.mark : D → Nat → D
  | .int _, k => .int k
  | .str _, k => .str (markT k)
  | .bool b, _ => .bool b
  | .arr m n es, k => .arr m n (D.markL es k)
def D.markL : List D → Nat → List D
  | [], _ => []
  | d :: ds, k => D.mark d k :: D.markL ds (k + D.cnt d)
end
theorem cnt_int (n : Int) : D.cnt (.int n) = 1 := by unfold D.cnt; rfl
theorem cnt_str (s : ByteArray) : D.cnt (.str s) = 1 := by unfold D.cnt; rfl
theorem cnt_arr (m n : Nat) (es : List D) : D.cnt (.arr m n es) = D.cntL es := by rw [D.cnt]
theorem cntL_nil : D.cntL [] = 0 := by unfold D.cntL; rfl
theorem cntL_cons (d : D) (ds : List D) : D.cntL (d :: ds) = D.cnt d + D.cntL ds := by rw [D.cntL]
theorem cntL_app (a b : List D) : D.cntL (a ++ b) = D.cntL a + D.cntL b := by
  induction a with
  | nil => rw [List.nil_append, cntL_nil]; omega
  | cons d a ih => rw [List.cons_append, cntL_cons, cntL_cons, ih]; omega
theorem mark_int (n : Int) (k : Nat) : D.mark (.int n) k = .int k := by unfold D.mark; rfl
theorem mark_str (s : ByteArray) (k : Nat) : D.mark (.str s) k = .str (markT k) := by unfold D.mark; rfl
theorem mark_arr (m n : Nat) (es : List D) (k : Nat) : D.mark (.arr m n es) k = .arr m n (D.markL es k) := by rw [D.mark]
theorem markL_nil (k : Nat) : D.markL [] k = [] := by unfold D.markL; rfl
theorem markL_cons (d : D) (ds : List D) (k : Nat) : D.markL (d :: ds) k = D.mark d k :: D.markL ds (k + D.cnt d) := by rw [D.markL]
theorem markL_app (a b : List D) (k : Nat) : D.markL (a ++ b) k = D.markL a k ++ D.markL b (k + D.cntL a) := by
  induction a generalizing k with
  | nil => rw [List.nil_append, markL_nil, cntL_nil]; rfl
  | cons d a ih => rw [List.cons_append, markL_cons, markL_cons, ih, cntL_cons, List.cons_append, Nat.add_assoc]
theorem markL_len (a : List D) (k : Nat) : (D.markL a k).length = a.length := by
  induction a generalizing k with
  | nil => rw [markL_nil]
  | cons d a ih => rw [markL_cons, List.length_cons, List.length_cons, ih]

/-- elements of m fields: the first j have been marked from k on -/
def markTo {α : Type} (f : α → List D) (xs : List α) (k j : Nat) : List D := D.markL ((xs.take j).flatMap f) k ++ (xs.drop j).flatMap f
def cntTo {α : Type} (f : α → List D) (xs : List α) (j : Nat) : Nat := D.cntL ((xs.take j).flatMap f)
section
variable {α : Type} {f : α → List D} {xs : List α} {m k j : Nat}
theorem markTo_zero : markTo f xs k 0 = xs.flatMap f := by unfold markTo; rw [List.take_zero, List.flatMap_nil, markL_nil, List.drop_zero]; rfl
theorem markTo_all {n : Nat} (hn : xs.length = n) : markTo f xs k n = D.markL (xs.flatMap f) k := by
  unfold markTo; rw [List.take_of_length_le (by omega), List.drop_eq_nil_of_le (by omega), List.flatMap_nil, List.append_nil]
theorem cntTo_zero : cntTo f xs 0 = 0 := by unfold cntTo; rw [List.take_zero, List.flatMap_nil, cntL_nil]
theorem cntTo_all {n : Nat} (hn : xs.length = n) : cntTo f xs n = D.cntL (xs.flatMap f) := by unfold cntTo; rw [List.take_of_length_le (by omega)]
theorem cntTo_succ (hj : j < xs.length) : cntTo f xs (j + 1) = cntTo f xs j + D.cntL (f xs[j]) := by
  unfold cntTo; rw [List.take_succ_eq_append_getElem hj, List.flatMap_append, cntL_app]; simp
theorem cntTo_le (hj : j ≤ xs.length) : cntTo f xs j ≤ D.cntL (xs.flatMap f) := by
  have : xs.flatMap f = (xs.take j).flatMap f ++ (xs.drop j).flatMap f := by rw [← List.flatMap_append, List.take_append_drop]
  unfold cntTo; rw [this, cntL_app]; omega
def setsD : List D → Nat → List D → List D
  | l, _, [] => l
  | l, p, v :: vs => setsD (l.set p v) (p + 1) vs
theorem setsD_mid (vs : List D) : ∀ (a zs r : List D), zs.length = vs.length → setsD (a ++ zs ++ r) a.length vs = a ++ vs ++ r := by
  induction vs with
  | nil => intro a zs r h; have : zs = [] := List.eq_nil_of_length_eq_zero h; subst this; simp [setsD]
  | cons v vs ih =>
    intro a zs r h
    rcases zs with _ | ⟨z, zs⟩
    · simp at h
    · have e : (a ++ z :: zs ++ r).set a.length v = (a ++ [v]) ++ zs ++ r := by simp [List.set_append_right]
      have := ih (a ++ [v]) zs r (by simpa using h)
      rw [setsD, e]
      simp only [List.length_append, List.length_singleton] at this
      rw [this]; simp
theorem markTo_split (hj : j < xs.length) : markTo f xs k j = D.markL ((xs.take j).flatMap f) k ++ f xs[j] ++ (xs.drop (j + 1)).flatMap f := by
  unfold markTo; rw [List.drop_eq_getElem_cons hj, List.flatMap_cons, List.append_assoc]
theorem markTo_pre (hf : ∀ x, (f x).length = m) (hj : j < xs.length) : (D.markL ((xs.take j).flatMap f) k).length = j * m := by
  rw [markL_len, flat_lenG f m hf, List.length_take, Nat.min_eq_left (by omega)]
/-- field i of element j -/
theorem markTo_get (hf : ∀ x, (f x).length = m) (hj : j < xs.length) {i : Nat} (hi : i < m) : (markTo f xs k j)[j * m + i]? = (f xs[j])[i]? := by
  rw [markTo_split hj, List.append_assoc, List.getElem?_append_right (by rw [markTo_pre hf hj]; omega), markTo_pre hf hj, Nat.add_sub_cancel_left, List.getElem?_append_left (by rw [hf]; exact hi)]
/-- all fields of element j have been set, one by one -/
theorem markTo_step (hf : ∀ x, (f x).length = m) (hj : j < xs.length) : setsD (markTo f xs k j) (j * m) (D.markL (f xs[j]) (k + cntTo f xs j)) = markTo f xs k (j + 1) := by
  have hp := markTo_pre (k := k) hf hj
  rw [markTo_split hj, ← hp, setsD_mid _ _ _ _ (by rw [markL_len])]
  unfold markTo
  rw [List.take_succ_eq_append_getElem hj, List.flatMap_append, markL_app]
  simp [cntTo]
end

/-- nothing but the blocks F and what is new has turned -/
def Chg (w w' : World) (F : List Nat) : Prop := w'.os = w.os ∧ w'.tape = w.tape ∧ w'.output = w.output ∧ w.heap.size ≤ w'.heap.size ∧ ∀ g, g < w.heap.size → g ∉ F → w'.heap[g]? = w.heap[g]?
section
variable {w w' w'' : World} {F G : List Nat}
theorem Chg.refl (w : World) (F : List Nat) : Chg w w F := ⟨rfl, rfl, rfl, Nat.le_refl _, fun _ _ _ => rfl⟩
theorem Chg.tr (h : Chg w w' F) (k : Chg w' w'' F) : Chg w w'' F :=
  ⟨k.1.trans h.1, k.2.1.trans h.2.1, k.2.2.1.trans h.2.2.1, Nat.le_trans h.2.2.2.1 k.2.2.2.1, fun g hg hn => (k.2.2.2.2 g (Nat.lt_of_lt_of_le hg h.2.2.2.1) hn).trans (h.2.2.2.2 g hg hn)⟩
theorem Chg.more (h : Chg w w' F) (hs : ∀ g ∈ F, g ∈ G) : Chg w w' G := ⟨h.1, h.2.1, h.2.2.1, h.2.2.2.1, fun g hg hn => h.2.2.2.2 g hg (fun hF => hn (hs g hF))⟩
theorem Chg.set (h : Chg w w' F) {g : Nat} (hg : g ∈ F) (j : Nat) (u : Value) : Chg w (w'.setCell ⟨g, j, none⟩ u) F :=
  ⟨h.1, h.2.1, h.2.2.1, by simpa [World.setCell] using h.2.2.2.1, fun x hx hn => (Below.heap_setCell w' ⟨g, j, none⟩ u x (fun e => hn (by rw [e]; exact hg))).trans (h.2.2.2.2 x hx hn)⟩
theorem Chg.bel (h : Chg w w' F) (hb : Below w'.heap.size w' w'') : Chg w w'' F :=
  ⟨hb.os.trans h.1, hb.tape.trans h.2.1, hb.output.trans h.2.2.1, Nat.le_trans h.2.2.2.1 hb.size, fun g hg hn => (hb.block g (Nat.lt_of_lt_of_le hg h.2.2.2.1)).trans (h.2.2.2.2 g hg hn)⟩
theorem Chg.below {C : Nat} {w0 : World} (hb : Below C w0 w) (h : Chg w w' F) (hC : C ≤ w0.heap.size) (hF : ∀ g ∈ F, C ≤ g) : Below C w0 w' :=
  hb.trans ⟨h.1, h.2.1, h.2.2.1, h.2.2.2.1, fun g hg => h.2.2.2.2 g (Nat.lt_of_lt_of_le hg (Nat.le_trans hC hb.size)) (fun hm => by have := hF g hm; omega)⟩
end

theorem own_scalar {w : World} {d : D} {F : List Nat} {v : Value} (h : D.own w d F v) (hs : (∃ n, d = .int n) ∨ ∃ s, d = .str s) : F = [] := by
  rcases hs with ⟨n, rfl⟩ | ⟨s, rfl⟩
  · unfold D.own at h; exact h.1
  · unfold D.own at h; exact h.1
theorem ownL_split {w : World} : ∀ {es : List D} {F : List Nat} {vs : List Value} {q : Nat} {d : D}, D.ownL w es F vs → es[q]? = some d →
    ∃ v F1 Fq F2, vs[q]? = some v ∧ F = F1 ++ Fq ++ F2 ∧ D.own w d Fq v ∧ ∀ (w' : World) (d' : D) (v' : Value), (∀ g ∈ F1 ++ F2, w'.heap[g]? = w.heap[g]?) → D.own w' d' Fq v' → D.ownL w' (es.set q d') F (vs.set q v')
  | [], F, vs, q, d, h, hd => by simp at hd
  | e :: es, F, vs, q, d, h, hd => by
    unfold D.ownL at h
    obtain ⟨v, r, F1, F2, rfl, rfl, h1, h2⟩ := h
    rcases q with _ | q
    · simp at hd
      subst hd
      refine ⟨v, [], F1, F2, rfl, by simp, h1, fun w' d' v' hk hd' => ?_⟩
      rw [List.set_cons_zero, List.set_cons_zero]
      unfold D.ownL
      exact ⟨v', r, F1, F2, rfl, rfl, hd', D.ownL.keep es F2 r (fun g hg => hk g (by simpa using hg)) h2⟩
    · simp at hd
      obtain ⟨u, G1, Gq, G2, k1, rfl, k3, k4⟩ := ownL_split h2 hd
      refine ⟨u, F1 ++ G1, Gq, G2, by simpa using k1, by simp, k3, fun w' d' v' hk hd' => ?_⟩
      rw [List.set_cons_succ, List.set_cons_succ]
      unfold D.ownL
      exact ⟨v, _, F1, G1 ++ Gq ++ G2, rfl, rfl, D.own.keep e F1 v (fun g hg => hk g (by simp [hg])) h1, k4 w' d' v' (fun g hg => hk g (by
        rcases List.mem_append.1 hg with hg | hg
        · simp [hg]
        · simp [hg])) hd'⟩

/-- where a row that is not empty lies -/
theorem own_row {w : World} {m n n' c : Nat} {es : List D} {F : List Nat} {A : Option Addr} (h : D.own w (.arr m n es) F (.slice A n' c)) (hn : 0 < n) (hm : 0 < m) : ∃ g o, A = some ⟨g, o, none⟩ ∧ g ∈ F := by
  unfold D.own at h
  obtain ⟨A', c', vs, F', e, h2, h3, h4, h5, h6⟩ := h
  injection e with e1 e2 e3
  subst e1
  rcases h6 with ⟨rfl, rfl⟩ | ⟨g, o, rfl, rfl, -⟩
  · have := D.ownL.length h5
    rw [h4] at this
    have h0 := Nat.mul_pos hn hm
    simp at this; omega
  · exact ⟨g, o, rfl, List.mem_cons_self⟩
theorem own_len {w : World} {m n n' c : Nat} {es : List D} {F : List Nat} {A : Option Addr} (h : D.own w (.arr m n es) F (.slice A n' c)) : n' = n ∧ n ≤ c ∧ c ≤ 9223372036854775807 ∧ es.length = n * m := by
  unfold D.own at h
  obtain ⟨A', c', vs, F', e, h2, h3, h4, _⟩ := h
  injection e with e1 e2 e3
  subst e2 e3
  exact ⟨rfl, h2, h3, h4⟩
section
variable {w w' : World} {m n n' c g o q : Nat} {es : List D} {F : List Nat} {d : D}
/-- one cell of a row: what it holds, and what the row reads as when it and what it leads to have turned -/
theorem own_sub (h : D.own w (.arr m n es) F (.slice (some ⟨g, o, none⟩) n' c)) (hF : F.Nodup) (hq : es[q]? = some d) :
    ∃ v Fq, w.cell? ⟨g, o + q, none⟩ = some v ∧ w.frozen? ⟨g, o + q, none⟩ = false ∧ D.own w d Fq v ∧ Fq.Nodup ∧ (∀ x ∈ Fq, x ∈ F) ∧ g ∈ F ∧ g ∉ Fq ∧
      (∀ (w' : World) (d' : D), Chg w w' Fq → (∀ x ∈ F, x < w.heap.size) → D.own w' d' Fq v → D.own w' (.arr m n (es.set q d')) F (.slice (some ⟨g, o, none⟩) n' c)) ∧
      (∀ (d' : D) (v' : Value), Fq = [] → (∀ W, D.own W d' [] v') → D.own (w.setCell ⟨g, o + q, none⟩ v') (.arr m n (es.set q d')) F (.slice (some ⟨g, o, none⟩) n' c)) := by
  unfold D.own at h
  obtain ⟨A', c', vs, F', e, h2, h3, h4, h5, h6⟩ := h
  injection e with e1 e2 e3
  subst e1 e2 e3
  have hvl := D.ownL.length h5
  have hql : q < es.length := (List.getElem?_eq_some_iff.1 hq).1
  rcases h6 with ⟨rfl, rfl⟩ | ⟨g', o', e', rfl, hc⟩
  · simp at hvl; omega
  · injection e' with e'
    injection e' with ea eb ec
    subst ea eb
    have hnd := List.nodup_cons.1 hF
    obtain ⟨v, F1, Fq, F2, k1, rfl, k3, k4⟩ := ownL_split h5 hq
    have hcq := hc q v k1
    have hgq : g ∉ Fq := fun hm => hnd.1 (by simp [hm])
    have hdis : ∀ x ∈ F1 ++ F2, x ∉ Fq := by
      intro x hx hxq
      have h8 := hnd.2
      rw [List.nodup_append] at h8
      obtain ⟨h8a, h8b, h8c⟩ := h8
      rw [List.nodup_append] at h8a
      rcases List.mem_append.1 hx with hx | hx
      · exact h8a.2.2 x hx x hxq rfl
      · exact h8c x (by simp [hxq]) x hx rfl
    refine ⟨v, Fq, hcq.1, hcq.2, k3, ?_, fun x hx => by simp [hx], List.mem_cons_self, hgq, fun w' d' hch hlt hd' => ?_, fun d' v' hFq hd' => ?_⟩
    · have h8 := hnd.2
      rw [List.nodup_append] at h8
      have h9 := h8.1
      rw [List.nodup_append] at h9
      exact h9.2.1
    · have hgk : w'.heap[g]? = w.heap[g]? := hch.2.2.2.2 g (hlt g List.mem_cons_self) hgq
      have h9 := k4 w' d' v (fun x hx => hch.2.2.2.2 x (hlt x (List.mem_cons_of_mem _ (by rcases List.mem_append.1 hx with hx | hx <;> simp [hx]))) (hdis x hx)) hd'
      have hset : vs.set q v = vs := by
        refine List.ext_getElem? fun i => ?_
        rw [List.getElem?_set]
        split
        · subst_vars
          split
          · exact k1.symm
          · rename_i hh; rw [List.getElem?_eq_none (by omega)]
        · rfl
      rw [hset] at h9
      unfold D.own
      exact ⟨_, c, vs, _, rfl, h2, h3, by rw [List.length_set]; exact h4, h9, .inr ⟨g, o, rfl, rfl, fun j u hu => ⟨(World.cell?_of_block hgk).trans (hc j u hu).1, (World.frozen?_of_block hgk).trans (hc j u hu).2⟩⟩⟩
    · subst hFq
      have h9 := k4 (w.setCell ⟨g, o + q, none⟩ v') d' v' (fun x hx => Below.heap_setCell _ _ _ _ (fun e => hnd.1 (by
        have e' : x = g := e
        subst e'
        rcases List.mem_append.1 hx with hx | hx <;> simp [hx]))) (hd' _)
      unfold D.own
      refine ⟨_, c, vs.set q v', _, rfl, h2, h3, by rw [List.length_set]; exact h4, h9, .inr ⟨g, o, rfl, rfl, fun j u hu => ?_⟩⟩
      have hfz : ∀ j, (w.setCell ⟨g, o + q, none⟩ v').frozen? ⟨g, o + j, none⟩ = w.frozen? ⟨g, o + j, none⟩ := fun j => by simp
      rw [hfz]
      rw [List.getElem?_set] at hu
      by_cases hj : q = j
      · subst hj
        rw [if_pos rfl, if_pos (by omega)] at hu
        injection hu with hu
        subst hu
        exact ⟨World.cell?_setCell_same _ _ _ hcq.1, hcq.2⟩
      · rw [if_neg hj] at hu
        have := hc j u hu
        refine ⟨?_, this.2⟩
        rw [World.cell?_setCell_other _ _ _ _ (fun e => hj (by injection e with _ e2; omega))]
        exact this.1
end

end Go.Proofs.Ytnaeglfochnikaa

namespace Go.Proofs.Ytnaeglfochnikaa
set_option linter.unusedVariables false
set_option linter.unusedSimpArgs false
open Go.RowKit

theorem digT_zero (s : List UInt8) : digT 0 s = s := by rw [digT, if_pos rfl]
theorem digT_pos {k : Nat} (h : 0 < k) (s : List UInt8) : digT k s = digT (k / 10) (UInt8.ofNat (48 + k % 10) :: s) := by rw [digT, if_neg (by omega)]
theorem digT_len (k : Nat) : ∀ s, (digT k s).length ≤ k + s.length := by
  induction k using Nat.strongRecOn with
  | _ k ih =>
    intro s
    rcases Nat.eq_zero_or_pos k with h | h
    · subst h; rw [digT_zero]; omega
    · rw [digT_pos h]
      have := ih (k / 10) (by omega) (UInt8.ofNat (48 + k % 10) :: s)
      simp only [List.length_cons] at this
      omega
theorem markT_size (k : Nat) : (markT k).size ≤ k + 1 := by
  have := digT_len k []
  show ((109 :: digT k []).toArray).size ≤ k + 1
  simp at this ⊢; omega
theorem bytes_ext2 {a b : ByteArray} (h : a.data.toList = b.data.toList) : a = b := by
  rcases a with ⟨⟨a⟩⟩; rcases b with ⟨⟨b⟩⟩; simp at h; subst h; rfl
theorem str_one (k : Nat) : (strOfNums [48 + ((k : Int) % 10)]).data.toList = [UInt8.ofNat (48 + k % 10)] := by
  have e : (48 + ((k : Int) % 10)) = ((48 + k % 10 : Nat) : Int) := by omega
  rw [e]
  show [UInt8.ofNat ((48 + k % 10 : Nat) : Int).toNat] = _
  rw [Int.toNat_natCast]

set_option maxHeartbeats 800000 in
set_option maxRecDepth 100000 in
theorem markText_d (k : Nat) (ki : Int) (w : World) (hki : ki = (k : Int)) (h1 : 1 ≤ k) (hk : k ≤ 1099511627776) :
    Calls Try.prog 35 #[.int .i64 ki] w fun e w' => e = .returned (.string (markT k)) ∧ Below w.heap.size w w' := by
  subst hki
  go_enter Try.func35, Try.ntmps35
  go_wp2_with fail
  go_loopw [0, 3] (fun p t wr => ∃ (q : Nat) (s : ByteArray), q ≤ k ∧ p = .int .i64 q ∧ t = .string s ∧ s.size + q ≤ k ∧ Hid (digT q s.data.toList = digT k []) ∧ Below w.heap.size w wr) (fun p _ _ => (intOf p).toNat)
  case atStart => exact ⟨k, ⟨#[]⟩, Nat.le_refl _, rfl, rfl, by show 0 + k ≤ k; omega, rfl, Below.refl _ _⟩
  case round =>
    obtain ⟨q, s, hq, rfl, rfl, hsz, HD, hb⟩ := hrel
    have HB := Lib.hid hb
    have hwsz := hb.size
    clear hb
    by_cases hq0 : 0 < q
    · have hcv := conv_one wr (48 + ((q : Int) % 10))
      have hs1 : (strOfNums [48 + ((q : Int) % 10)]).size = 1 := by rw [strOfNums_size]; rfl
      have HS1 := Lib.hid hs1
      have hs2 : (strOfNums [48 + ((q : Int) % 10)]).size + s.size ≤ 9223372036854775807 := by omega
      have HN : Hid (digT (q / 10) (strOfNums [48 + ((q : Int) % 10)] ++ s).data.toList = digT k []) := by
        show _ = _
        rw [← HD.out, digT_pos hq0, ByteArray.data_append, Array.toList_append, str_one]; rfl
      clear hs1
      go_wp2_with fail
      go_roundw
      case rel => exact ⟨q / 10, _, by omega, by go_num, rfl, by rw [ByteArray.size_append, HS1.out]; omega, HN, HB.out.alloc hwsz _⟩
      case measure => simp [intOf]; omega
    · have hq1 : q = 0 := by omega
      subst hq1
      have HN : Hid ((⟨#[109]⟩ : ByteArray) ++ s = markT k) := by
        show _ = _
        refine bytes_ext2 ?_
        have h2 := HD.out
        rw [digT_zero] at h2
        rw [ByteArray.data_append, Array.toList_append, h2]
        rfl
      go_wp2_with fail
      go_ret
      exact ⟨by first | rfl | (rw [HN.out]; rfl), HB.out⟩

/-- one number or text of a row of the call's own -/
theorem own_put {w : World} {m n n' c g o p i : Nat} {es : List D} {F : List Nat} {d : D} (h : D.own w (.arr m n es) F (.slice (some ⟨g, o, none⟩) n' c)) (hF : F.Nodup) (hq : es[p + i]? = some d) (hs : (∃ x, d = .int x) ∨ ∃ s, d = .str s) (d' : D) (v' : Value) (hv : ∀ W, D.own W d' [] v') :
    (∃ u, w.cell? ⟨g, o + p + i, none⟩ = some u) ∧ w.frozen? ⟨g, o + p + i, none⟩ = false ∧ g ∈ F ∧ D.own (w.setCell ⟨g, o + p + i, none⟩ v') (.arr m n (es.set (p + i) d')) F (.slice (some ⟨g, o, none⟩) n' c) := by
  obtain ⟨v, Fq, h1, h2, h3, h4, h5, h6, h7, h8, h9⟩ := own_sub h hF hq
  rw [← Nat.add_assoc] at h1 h2
  refine ⟨⟨v, h1⟩, h2, h6, ?_⟩
  have := h9 d' v' (own_scalar h3 hs) hv
  rwa [← Nat.add_assoc] at this
/-- one row of a row of the call's own -/
theorem own_arr {w : World} {m n n' c g o p i m2 n2 : Nat} {es es2 : List D} {F : List Nat} (h : D.own w (.arr m n es) F (.slice (some ⟨g, o, none⟩) n' c)) (hF : F.Nodup) (hq : es[p + i]? = some (.arr m2 n2 es2)) :
    ∃ A2 c2 Fq, w.cell? ⟨g, o + p + i, none⟩ = some (.slice A2 n2 c2) ∧ D.own w (.arr m2 n2 es2) Fq (.slice A2 n2 c2) ∧ Fq.Nodup ∧ (∀ x ∈ Fq, x ∈ F) ∧ g ∈ F ∧ g ∉ Fq ∧
      (∀ (w' : World) (d' : D), Chg w w' Fq → (∀ x ∈ F, x < w.heap.size) → D.own w' d' Fq (.slice A2 n2 c2) → D.own w' (.arr m n (es.set (p + i) d')) F (.slice (some ⟨g, o, none⟩) n' c)) := by
  obtain ⟨v, Fq, h1, h2, h3, h4, h5, h6, h7, h8, h9⟩ := own_sub h hF hq
  rw [← Nat.add_assoc] at h1
  have h3' := h3
  unfold D.own at h3'
  obtain ⟨A2, c2, vs, F', rfl, _⟩ := h3'
  exact ⟨A2, c2, Fq, h1, h3, h4, h5, h6, h7, h8⟩

theorem bel_dr2 {W W' : World} (h : Below W.drew.heap.size W.drew W') : Below W.heap.size W W' := ⟨h.os, h.tape, h.output, h.size, h.block⟩
theorem mark_rd_inv {w : World} {lo hi m n k : Nat} {es : List D} {v : Value} (h : D.rd w lo hi (D.mark (.arr m n es) k) v) : ∃ A c, v = .slice A n c ∧ D.rd w lo hi (D.mark (.arr m n es) k) (.slice A n c) := by
  rw [mark_arr] at h ⊢
  obtain ⟨A, c, rfl, -, -, h2⟩ := h.arr_inv
  exact ⟨A, c, rfl, h2⟩
/-- what a function that marks leaves -/
def MarkR (d : D) (k : Nat) (F : List Nat) (v : Value) (w : World) (e : Ending) (w' : World) : Prop := D.own w' (D.mark d k) F v ∧ Chg w w' F ∧ e = .returned (.int .i64 ((k + D.cnt d : Nat) : Int))
/-- what a function that asks for marks answers -/
def HeldR (d : D) (k : Nat) (w : World) (e : Ending) (w' : World) : Prop := Below w.heap.size w w' ∧ e = .returned (.int .i64 ((k + D.cnt d : Nat) : Int))

/-- a row that is not empty, field by field -/
theorem rd_row {w : World} {lo hi m n n' c : Nat} {es : List D} {A : Option Addr} (h : D.rd w lo hi (.arr m n es) (.slice A n' c)) (hn : 0 < n) (hm : 0 < m) :
    ∃ b o, A = some ⟨b, o, none⟩ ∧ lo ≤ b ∧ b < hi ∧ ∀ (p i : Nat) (d : D), es[p + i]? = some d → ∃ u, w.cell? ⟨b, o + p + i, none⟩ = some u ∧ D.rd w lo hi d u := by
  unfold D.rd at h
  obtain ⟨A', c', vs, e, g2, g3, g4, g5, g6⟩ := h
  injection e with e1 e2 e3
  subst e1
  have hvl := D.rdL.length g6
  have hne : vs ≠ [] := by
    intro e
    subst e
    have h0 := Nat.mul_pos hn hm
    rw [← hvl] at g4
    simp at g4; omega
  obtain ⟨b, o, rfl, k1, k2, hc⟩ := g5 hne
  refine ⟨b, o, rfl, k1, k2, fun p i d hd => ?_⟩
  obtain ⟨u, hu, hr⟩ := D.rdL.get g6 hd
  refine ⟨u, ?_, hr⟩
  have := hc _ _ hu
  rwa [← Nat.add_assoc] at this
theorem markL_get {α : Type} {f : α → List D} {m : Nat} (hf : ∀ x, (f x).length = m) {xs : List α} {k j : Nat} (hj : j < xs.length) {i : Nat} (hi : i < m) : (D.markL (xs.flatMap f) k)[j * m + i]? = (D.markL (f xs[j]) (k + cntTo f xs j))[i]? := by
  have e : xs.flatMap f = (xs.take j).flatMap f ++ (f xs[j] ++ (xs.drop (j + 1)).flatMap f) := by
    have h1 : xs.flatMap f = (xs.take j).flatMap f ++ (xs.drop j).flatMap f := by rw [← List.flatMap_append, List.take_append_drop]
    rw [h1, List.drop_eq_getElem_cons hj, List.flatMap_cons]
  rw [e, markL_app, markL_app, List.getElem?_append_right (by rw [markTo_pre hf hj]; omega), markTo_pre hf hj, Nat.add_sub_cancel_left, List.getElem?_append_left (by rw [markL_len, hf]; exact hi)]
  rfl

def fInt (x : Int) : List D := [.int x]
theorem fInt_len (x : Int) : (fInt x).length = 1 := rfl
theorem intsD_flat (xs : List Int) : intsD xs = .arr 1 xs.length (xs.flatMap fInt) := by
  unfold intsD
  congr 1
  induction xs with
  | nil => rfl
  | cons x xs ih => rw [List.map_cons, List.flatMap_cons, ih]; rfl

end Go.Proofs.Ytnaeglfochnikaa

namespace Go.Proofs.Ytnaeglfochnikaa
set_option linter.unusedVariables false
set_option linter.unusedSimpArgs false
open Go.RowKit

/-- a value in memory of its own, in blocks from lo on and below hi -/
def OwnI (w : World) (lo hi : Nat) (d : D) (v : Value) : Prop := ∃ F : List Nat, F.Nodup ∧ (∀ g ∈ F, lo ≤ g ∧ g < hi) ∧ D.own w d F v
section
variable {w w' : World} {lo hi lo' hi' C : Nat} {d : D} {v : Value} {F : List Nat}
theorem Own.ival (h : Own w lo d v) : OwnI w lo w.heap.size d v := h
theorem OwnI.rd (h : OwnI w lo hi d v) : D.rd w lo hi d v := by
  obtain ⟨F, _, h2, h3⟩ := h
  exact D.own.rd d F v h2 h3
theorem OwnI.below (h : OwnI w lo hi d v) (hb : Below C w w') (hC : hi ≤ C) : OwnI w' lo hi d v := by
  obtain ⟨F, h1, h2, h3⟩ := h
  exact ⟨F, h1, h2, D.own.keep d F v (fun g hg => hb.block g (Nat.lt_of_lt_of_le (h2 g hg).2 hC)) h3⟩
theorem OwnI.chg (h : OwnI w lo hi d v) (hc : Chg w w' F) (hhi : hi ≤ w.heap.size) (hF : ∀ g ∈ F, g < lo ∨ hi ≤ g) : OwnI w' lo hi d v := by
  obtain ⟨G, h1, h2, h3⟩ := h
  refine ⟨G, h1, h2, D.own.keep d G v (fun g hg => hc.2.2.2.2 g (Nat.lt_of_lt_of_le (h2 g hg).2 hhi) (fun hm => ?_)) h3⟩
  have := hF g hm
  have := h2 g hg
  omega
theorem D.rd.chg (h : D.rd w lo hi d v) (hc : Chg w w' F) (hhi : hi ≤ w.heap.size) (hF : ∀ g ∈ F, g < lo ∨ hi ≤ g) : D.rd w' lo hi d v :=
  D.rd.keep (fun p g1 g2 => World.cell?_of_block (hc.2.2.2.2 p.block (Nat.lt_of_lt_of_le g2 hhi) (fun hm => by have := hF _ hm; omega))) (Nat.le_refl _) (Nat.le_refl _) _ _ h
end

theorem cnt_flat {α : Type} (f : α → List D) (h : ∀ x, D.cntL (f x) ≤ 3 + 3 * D.szL (f x)) (xs : List α) : D.cntL (xs.flatMap f) ≤ 3 * xs.length + 3 * D.szL (xs.flatMap f) := by
  induction xs with
  | nil => rw [List.flatMap_nil, cntL_nil]; omega
  | cons x xs ih =>
    rw [List.flatMap_cons, cntL_app, szL_app, List.length_cons]
    have := h x
    omega
theorem cnt_arr_le {α : Type} (f : α → List D) (h : ∀ x, D.cntL (f x) ≤ 3 + 3 * D.szL (f x)) (m : Nat) (xs : List α) : D.cnt (.arr m xs.length (xs.flatMap f)) ≤ 3 * D.sz (.arr m xs.length (xs.flatMap f)) := by
  rw [cnt_arr, sz_arr]
  have := cnt_flat f h xs
  omega
theorem cnt_ints (xs : List Int) : D.cnt (intsD xs) = xs.length := by
  unfold intsD
  rw [cnt_arr]
  induction xs with
  | nil => rw [List.map_nil, cntL_nil]; rfl
  | cons x xs ih => rw [List.map_cons, cntL_cons, cnt_int, ih, List.length_cons]; omega

end Go.Proofs.Ytnaeglfochnikaa

namespace Go.Proofs.Ytnaeglfochnikaa
set_option linter.unusedVariables false
set_option linter.unusedSimpArgs false
open Go.RowKit

set_option maxRecDepth 100000 in
set_option maxHeartbeats 3200000 in
theorem markIntS_d (xs : List Int) (A : Option Addr) (n c k : Nat) (ki : Int) (FF : List Nat) (w : World) (hki : ki = (k : Int)) (h1 : 1 ≤ k) (hk : k + D.cnt (intsD xs) ≤ 1099511627776) (hF : FF.Nodup) (hlt : ∀ x ∈ FF, x < w.heap.size) (h : D.own w (intsD xs) FF (.slice A n c)) :
    Calls Try.prog 15 #[.slice A n c, .int .i64 ki] w fun e w' => MarkR (intsD xs) k FF (.slice A n c) w e w' := by
  subst hki
  rw [intsD_flat] at h hk ⊢
  have hl := own_len h
  have hn : xs.length = n := hl.1.symm
  have hnc := hl.2.1
  have hc63 := hl.2.2.1
  clear hl
  rw [hn] at h hk hnc ⊢
  rw [cnt_arr] at hk
  rcases Nat.eq_zero_or_pos n with h0 | h0
  · subst h0
    have hx : xs = [] := List.eq_nil_of_length_eq_zero hn
    subst hx
    have HO := Lib.hid h
    clear h hn
    go_enter Try.func15, Try.ntmps15
    go_wp2_with fail
    refine wp_loop_rounds 1 ?_
    rw [rounds_succ]
    go_wp2_with fail
    go_ret
    refine ⟨?_, Chg.refl _ _, ?_⟩
    · rw [mark_arr, List.flatMap_nil, markL_nil]; exact HO.out
    · rw [cnt_arr, List.flatMap_nil, cntL_nil]; rfl
  · obtain ⟨g, o, rfl, hgF⟩ := own_row h h0 (by omega)
    have HO := Lib.hid h
    have HF := Lib.hid hF
    have HLT := Lib.hid hlt
    have HK := Lib.hid hk
    have HN := Lib.hid hn
    clear h hF hlt hk hn
    go_enter Try.func15, Try.ntmps15
    go_wp2_with fail
    go_loopw [1, 5] (fun l i wr => ∃ j : Nat, j ≤ n ∧ i = .int .i64 j ∧ l = .int .i64 ((k + cntTo fInt xs j : Nat) : Int) ∧ D.own wr (.arr 1 n (markTo fInt xs k j)) FF (.slice (some ⟨g, o, none⟩) n c) ∧ Chg w wr FF) (fun _ i _ => n - (intOf i).toNat)
    case atStart => exact ⟨0, Nat.zero_le _, rfl, by rw [cntTo_zero]; rfl, by rw [markTo_zero]; exact HO.out, Chg.refl _ _⟩
    case round =>
      obtain ⟨j, hj, rfl, rfl, hown, hch⟩ := hrel
      have H0 := Lib.hid hown
      have HC0 := Lib.hid hch
      have hws := hch.2.2.2.1
      have HL0 : Hid (∀ x ∈ FF, x < wr.heap.size) := fun x hx => Nat.lt_of_lt_of_le (HLT.out x hx) hws
      clear hown hch
      by_cases hlt : j < n
      · have hjl : j < xs.length := by rw [HN.out]; exact hlt
        obtain ⟨q, hq⟩ : ∃ q, k + cntTo fInt xs j = q := ⟨_, rfl⟩
        have hq00 : 1 ≤ q := by omega
        have hqk : q + D.cntL (fInt xs[j]) ≤ 1099511627776 := by
          have h2 := cntTo_le (f := fInt) (xs := xs) (j := j + 1) (by omega)
          rw [cntTo_succ hjl] at h2
          have h3 := HK.out
          omega
        have HQ := Lib.hid hq
        have hcs : D.cntL (fInt xs[j]) = 1 := by
          unfold fInt
          simp only [cntL_cons, cntL_nil, cnt_int, cnt_str]
          try omega
        have HCS := Lib.hid hcs
        rw [hcs] at hqk
        rw [hq]
        clear hq hcs
        obtain ⟨⟨u0, hg0⟩, hf0, -, hp0⟩ := own_put H0.out HF.out (p := j * 1) (i := 0) (markTo_get fInt_len hjl (by omega)) (.inl ⟨_, rfl⟩) (.int (((q : Nat) : Int))) (.int .i64 (((q : Nat) : Int))) (fun W => D.own.int W _)
        simp only [Nat.add_zero, Nat.mul_one] at hg0 hf0 hp0
        have HP0 := Lib.hid hp0
        clear hp0
        have HC100 := Lib.hid (HC0.out.set hgF (o + j) (.int .i64 (((q : Nat) : Int))))
        have HL100 : Hid (∀ x ∈ FF, x < (wr.setCell ⟨g, o + j, none⟩ (.int .i64 (((q : Nat) : Int)))).heap.size) := fun x hx => by simpa [World.setCell] using HL0.out x hx
        have hm : D.markL (fInt xs[j]) q = [.int (((q : Nat) : Int))] := by
          unfold fInt
          simp only [markL_cons, markL_nil, mark_int, mark_str, cnt_int, cnt_str]
          try rfl
        have HFIN : Hid (setsD (markTo fInt xs k j) (j * 1) [.int (((q : Nat) : Int))] = markTo fInt xs k (j + 1)) := by
          show _ = _
          rw [← markTo_step fInt_len hjl, HQ.out, hm]
        clear hm
        have HCN : Hid ((((q + 1 : Nat) : Int)) = ((k + cntTo fInt xs (j + 1) : Nat) : Int)) := by
          show _ = _
          have h1 := HQ.out
          have h2 := HCS.out
          rw [cntTo_succ hjl, h2]
          omega
        go_wp2_with fail
        exact ⟨⟨j + 1, by omega, by go_num, by first | (rw [← HCN.out]; done) | (rw [← HCN.out]; rfl) | (rw [← HCN.out]; congr 1), by rw [← HFIN.out]; first | exact HP0.out | simpa [setsD] using HP0.out, HC100.out⟩, by simp [intOf]; omega⟩
      · have hjn : j = n := by omega
        subst hjn
        go_wp2_with fail
        go_ret
        exact ⟨by rw [mark_arr, ← markTo_all HN.out]; exact H0.out, HC0.out, by rw [cnt_arr, ← cntTo_all HN.out]; rfl⟩

set_option maxRecDepth 100000 in
set_option maxHeartbeats 3200000 in
theorem heldIntS_d (xs : List Int) (A : Option Addr) (n c k : Nat) (ki : Int) (w : World) (lo hi : Nat) (hh : hi ≤ w.heap.size) (hki : ki = (k : Int)) (h1 : 1 ≤ k) (hk : k + D.cnt (intsD xs) ≤ 1099511627776) (h : D.rd w lo hi (D.mark (intsD xs) k) (.slice A n c)) :
    Calls Try.prog 16 #[.slice A n c, .int .i64 ki] w fun e w' => HeldR (intsD xs) k w e w' := by
  subst hki
  rw [intsD_flat] at h hk ⊢
  rw [mark_arr] at h
  rw [cnt_arr] at hk
  have hn : xs.length = n := h.len.1.symm
  have hnc := h.len.2.1
  have hc63 := h.len.2.2
  rw [hn] at h hnc ⊢
  have HI := Lib.hid h
  have HK := Lib.hid hk
  have HN := Lib.hid hn
  clear h hk hn
  go_enter Try.func16, Try.ntmps16
  go_wp2_with fail
  go_loopw [1, 5] (fun l i wr => ∃ j : Nat, j ≤ n ∧ i = .int .i64 j ∧ l = .int .i64 ((k + cntTo fInt xs j : Nat) : Int) ∧ Below w.heap.size w wr) (fun _ i _ => n - (intOf i).toNat)
  case atStart => exact ⟨0, Nat.zero_le _, rfl, by rw [cntTo_zero]; rfl, Below.refl _ _⟩
  case round =>
    obtain ⟨j, hj, rfl, rfl, hb⟩ := hrel
    have HB0 := Lib.hid hb
    have hws0 := hb.size
    clear hb
    by_cases hlt : j < n
    · have hjl : j < xs.length := by rw [HN.out]; exact hlt
      obtain ⟨b, o, rfl, _, hbh, hc⟩ := rd_row (HI.out.below HB0.out hh) (by omega) (by omega)
      obtain ⟨q, hq⟩ : ∃ q, k + cntTo fInt xs j = q := ⟨_, rfl⟩
      have hq00 : 1 ≤ q := by omega
      have hqk : q + D.cntL (fInt xs[j]) ≤ 1099511627776 := by
        have h2 := cntTo_le (f := fInt) (xs := xs) (j := j + 1) (by omega)
        rw [cntTo_succ hjl] at h2
        have h3 := HK.out
        omega
      have HQ := Lib.hid hq
      have hcs : D.cntL (fInt xs[j]) = 1 := by
        unfold fInt
        simp only [cntL_cons, cntL_nil, cnt_int, cnt_str]
        try omega
      have HCS := Lib.hid hcs
      rw [hcs] at hqk
      rw [hq]
      have hbw : b < wr.heap.size := by omega
      clear hq hcs
      have hm : D.markL (fInt xs[j]) q = [.int (((q : Nat) : Int))] := by
        unfold fInt
        simp only [markL_cons, markL_nil, mark_int, mark_str, cnt_int, cnt_str]
        try rfl
      obtain ⟨u0, hg0, hr0⟩ := hc (j * 1) 0 (.int (((q : Nat) : Int))) ((markL_get fInt_len hjl (by omega)).trans (by rw [HQ.out, hm]; rfl))
      simp only [Nat.add_zero, Nat.mul_one] at hg0
      obtain rfl := hr0.int_inv
      clear hm hc
      have HCN : Hid ((((q + 1 : Nat) : Int)) = ((k + cntTo fInt xs (j + 1) : Nat) : Int)) := by
        show _ = _
        have h1 := HQ.out
        have h2 := HCS.out
        rw [cntTo_succ hjl, h2]
        omega
      go_wp2_with fail
      exact ⟨⟨j + 1, by omega, by go_num, by first | (rw [← HCN.out]; done) | (rw [← HCN.out]; rfl) | (rw [← HCN.out]; congr 1), HB0.out⟩, by simp [intOf]; omega⟩
    · have hjn : j = n := by omega
      subst hjn
      go_wp2_with fail
      go_ret
      exact ⟨HB0.out, by rw [cnt_arr, ← cntTo_all HN.out]; rfl⟩

end Go.Proofs.Ytnaeglfochnikaa
