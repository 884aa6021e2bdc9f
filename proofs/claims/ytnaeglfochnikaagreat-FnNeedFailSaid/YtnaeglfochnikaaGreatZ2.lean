/-
  The walks of DeltaApply itself, of the program and of the reference. Condition: lengths fit an int64.
  What DeltaMake computes, in plain Lean: the longest part of a base with which a text begins, and the operations that make a text. No program in sight.
  The pack that PackMake makes of objects, in plain Lean: sizes of deltas, the best base of a text, the entries. No program in sight.
  Stores of objects in plain Lean: which lists are stores; what storing one object, or several, gives. No program in sight.
-/
import Derived.Test.YtnaeglfochnikaaGreatZ1
import Derived.Lib.IndexLaws
namespace Go.Proofs.YtnaeglfochnikaaGreat
set_option linter.unusedVariables false
set_option linter.unusedSimpArgs false
open Go.RowKit

theorem outB_size {base : ByteArray} {o : OpD} (hb : base.size ≤ 8) (h : fitB base.size o = true) : (outB base o).size ≤ 8 := by
  by_cases hs : o.size = 0
  · rw [outB_zero hs]
    rw [fitB_zero hs] at h
    simp only [Bool.and_eq_true, inR_iff] at h
    omega
  · rw [outB_copy hs, ByteArray.size_extract]
    omega

/-- what both DeltaApply answer -/
def DRes (base : ByteArray) (xs : List OpD) : Ending := .returned (.tuple #[.string (strD base xs), .bool (okD base xs)])
theorem DRes_no {base : ByteArray} {xs : List OpD} (h : okD base xs = false) : Ending.returned (.tuple #[.string ⟨#[]⟩, .bool false]) = DRes base xs := by
  unfold DRes; rw [strD_no h, h]; rfl

theorem bytes_ext {a b : ByteArray} (h : a.data.toList = b.data.toList) : a = b := by
  cases a; cases b; simpa using h
theorem bytes_of_size {a : ByteArray} (h : a.size = 0) : a = ByteArray.empty := by
  apply bytes_ext
  have : a.data.toList.length = 0 := by simpa using h
  rw [List.eq_nil_of_length_eq_zero this]; rfl
theorem fit_bounds {base : ByteArray} {o : OpD} (h : fitB base.size o = true) : 0 ≤ o.at_ ∧ 0 ≤ o.size ∧ o.at_ + o.size ≤ base.size := by
  by_cases hs : o.size = 0
  · rw [fitB_zero hs] at h
    simp only [Bool.and_eq_true, decide_eq_true_eq] at h
    omega
  · rw [fitB_copy hs] at h
    simp only [Bool.and_eq_true, inR_iff] at h
    omega
theorem fit_text {base : ByteArray} {o : OpD} (h : fitB base.size o = true) : o.text.size ≤ 8 := by
  by_cases hs : o.size = 0
  · rw [fitB_zero hs] at h
    simp only [Bool.and_eq_true, inR_iff] at h
    omega
  · rw [fitB_copy hs] at h
    simp only [Bool.and_eq_true, decide_eq_true_eq] at h
    omega
theorem out_spec {base : ByteArray} {o : OpD} (h : fitB base.size o = true) : o.text ++ base.extract o.at_.toNat (o.at_ + o.size).toNat = outB base o := by
  by_cases hs : o.size = 0
  · rw [outB_zero hs]
    have e : base.extract o.at_.toNat (o.at_ + o.size).toNat = ByteArray.empty := bytes_of_size (by rw [ByteArray.size_extract, hs]; omega)
    rw [e, ByteArray.append_empty]
  · rw [outB_copy hs]
    rw [fitB_copy hs] at h
    simp only [Bool.and_eq_true, decide_eq_true_eq] at h
    rw [bytes_of_size h.1, ByteArray.empty_append]

end Go.Proofs.YtnaeglfochnikaaGreat

namespace Go.Proofs.YtnaeglfochnikaaGreat
set_option linter.unusedVariables false
set_option linter.unusedSimpArgs false
open Go.RowKit

/-- with how many bytes two lists begin alike -/
def lcp : List UInt8 → List UInt8 → Nat
  | a :: x, b :: y => if a = b then lcp x y + 1 else 0
  | _, _ => 0
theorem lcp_left (x y : List UInt8) : lcp x y ≤ x.length := by
  induction x generalizing y with
  | nil => simp [lcp]
  | cons a x ih =>
    rcases y with _ | ⟨b, y⟩
    · simp [lcp]
    · have := ih y
      simp only [lcp, List.length_cons]; split <;> omega
theorem lcp_right (x y : List UInt8) : lcp x y ≤ y.length := by
  induction x generalizing y with
  | nil => simp [lcp]
  | cons a x ih =>
    rcases y with _ | ⟨b, y⟩
    · simp [lcp]
    · have := ih y
      simp only [lcp, List.length_cons]; split <;> omega
theorem lcp_take (x y : List UInt8) : x.take (lcp x y) = y.take (lcp x y) := by
  induction x generalizing y with
  | nil => simp [lcp]
  | cons a x ih =>
    rcases y with _ | ⟨b, y⟩
    · simp [lcp]
    · simp only [lcp]; split
      · rename_i h; simp [h, ih y]
      · simp
theorem lcp_pre (x y : List UInt8) (k : Nat) (hk : k ≤ y.length) : (y.take k).isPrefixOf x = decide (k ≤ lcp x y) := by
  induction x generalizing y k with
  | nil =>
    rcases k with _ | k
    · simp
    · rcases y with _ | ⟨b, y⟩
      · simp at hk
      · simp [lcp, List.isPrefixOf]
  | cons a x ih =>
    rcases k with _ | k
    · simp
    · rcases y with _ | ⟨b, y⟩
      · simp at hk
      · have := ih y k (by simpa using hk)
        simp only [List.take_succ_cons, List.isPrefixOf, lcp, this]
        by_cases h : a = b
        · subst h; simp
        · have h2 : (b == a) = false := by simpa using fun e => h e.symm
          simp [h, h2]
theorem lcp_more (x y : List UInt8) (n : Nat) (hx : n < x.length) (hy : n < y.length) (h : n ≤ lcp x y) (he : x[n] = y[n]) : n + 1 ≤ lcp x y := by
  induction x generalizing y n with
  | nil => simp at hx
  | cons a x ih =>
    rcases y with _ | ⟨b, y⟩
    · simp at hy
    · rcases n with _ | n
      · simp at he; subst he; simp [lcp]
      · have h1 : a = b := by
          by_cases h1 : a = b
          · exact h1
          · simp [lcp, h1] at h
        subst h1
        simp only [lcp, if_true] at h ⊢
        have := ih y n (by simpa using hx) (by simpa using hy) (by omega) (by simpa using he)
        omega
theorem lcp_done (x y : List UInt8) (n : Nat) (hx : n < x.length) (hy : n < y.length) (h : n ≤ lcp x y) (he : x[n] ≠ y[n]) : lcp x y = n := by
  induction x generalizing y n with
  | nil => simp at hx
  | cons a x ih =>
    rcases y with _ | ⟨b, y⟩
    · simp at hy
    · rcases n with _ | n
      · simp at he; simp [lcp, he]
      · have h1 : a = b := by
          by_cases h1 : a = b
          · exact h1
          · simp [lcp, h1] at h
        subst h1
        simp only [lcp, if_true] at h ⊢
        have := ih y n (by simpa using hx) (by simpa using hy) (by omega) (by simpa using he)
        omega

/-- the place and the size of the first longest part of b, among its first i places, with which t begins -/
def bestTo (b t : List UInt8) : Nat → Nat × Nat
  | 0 => (0, 0)
  | i + 1 => if (bestTo b t i).2 < lcp (b.drop i) t then (i, lcp (b.drop i) t) else bestTo b t i
theorem bestTo_yes {b t : List UInt8} {i : Nat} (h : (bestTo b t i).2 < lcp (b.drop i) t) : bestTo b t (i + 1) = (i, lcp (b.drop i) t) := by rw [bestTo, if_pos h]
theorem bestTo_no {b t : List UInt8} {i : Nat} (h : ¬ (bestTo b t i).2 < lcp (b.drop i) t) : bestTo b t (i + 1) = bestTo b t i := by rw [bestTo, if_neg h]
theorem bestTo_max (b t : List UInt8) (i : Nat) : ∀ j, j < i → lcp (b.drop j) t ≤ (bestTo b t i).2 := by
  induction i with
  | zero => intro j hj; omega
  | succ i ih =>
    intro j hj
    by_cases h : (bestTo b t i).2 < lcp (b.drop i) t
    · rw [bestTo_yes h]
      rcases Nat.lt_or_ge j i with hji | hji
      · have := ih j hji; simp only; omega
      · obtain rfl : j = i := by omega
        exact Nat.le_refl _
    · rw [bestTo_no h]
      rcases Nat.lt_or_ge j i with hji | hji
      · exact ih j hji
      · obtain rfl : j = i := by omega
        omega
theorem bestTo_at (b t : List UInt8) (i : Nat) : 0 < (bestTo b t i).2 → (bestTo b t i).1 < i ∧ lcp (b.drop (bestTo b t i).1) t = (bestTo b t i).2 ∧ ∀ j, j < (bestTo b t i).1 → lcp (b.drop j) t < (bestTo b t i).2 := by
  induction i with
  | zero => intro h; simp [bestTo] at h
  | succ i ih =>
    by_cases h : (bestTo b t i).2 < lcp (b.drop i) t
    · rw [bestTo_yes h]
      intro _
      exact ⟨Nat.lt_succ_self _, rfl, fun j hj => Nat.lt_of_le_of_lt (bestTo_max b t i j hj) h⟩
    · rw [bestTo_no h]
      intro h0
      obtain ⟨h1, h2, h3⟩ := ih h0
      exact ⟨by omega, h2, h3⟩
theorem bestTo_zero (b t : List UInt8) (i : Nat) : (bestTo b t i).2 = 0 → bestTo b t i = (0, 0) := by
  induction i with
  | zero => intro _; rfl
  | succ i ih =>
    by_cases h : (bestTo b t i).2 < lcp (b.drop i) t
    · rw [bestTo_yes h]; intro h0; simp only at h0; omega
    · rw [bestTo_no h]; exact ih

/-- of texts -/
def bestB (b t : ByteArray) : Nat × Nat := bestTo b.data.toList t.data.toList b.size
theorem len_data (s : ByteArray) : s.data.toList.length = s.size := rfl
theorem bestB_right (b t : ByteArray) : (bestB b t).2 ≤ t.size := by
  rcases Nat.eq_zero_or_pos (bestB b t).2 with h | h
  · omega
  · have := (bestTo_at _ _ _ h).2.1
    unfold bestB
    rw [← this, ← len_data]; exact lcp_right _ _
theorem bestB_left (b t : ByteArray) : (bestB b t).1 + (bestB b t).2 ≤ b.size := by
  rcases Nat.eq_zero_or_pos (bestB b t).2 with h | h
  · have := bestTo_zero _ _ _ h
    unfold bestB
    rw [this]; exact Nat.zero_le _
  · have h1 := (bestTo_at _ _ _ h).2.1
    have h0 := (bestTo_at _ _ _ h).1
    have h2 := lcp_left (b.data.toList.drop (bestB b t).1) t.data.toList
    rw [List.length_drop, len_data] at h2
    unfold bestB at *
    rw [h1] at h2
    omega
/-- what strings.Index tells of the first k bytes of a text -/
theorem index_best (b t : ByteArray) (k : Nat) (h1 : 1 ≤ k) (hk : k ≤ t.size) (hb : (bestB b t).2 ≤ k) : Lib.index b.data.toList (t.data.toList.take k) = if (bestB b t).2 = k then ((bestB b t).1 : Int) else -1 := by
  have hocc : ∀ j, Lib.occAt b.data.toList (t.data.toList.take k) j = decide (k ≤ lcp (b.data.toList.drop j) t.data.toList) := fun j => by
    unfold Lib.occAt
    exact lcp_pre _ _ k hk
  have hmax := bestTo_max b.data.toList t.data.toList b.size
  by_cases he : (bestB b t).2 = k
  · rw [if_pos he]
    obtain ⟨g1, g2, g3⟩ := bestTo_at b.data.toList t.data.toList b.size (by show 0 < (bestB b t).2; omega)
    refine Lib.index_first (Nat.le_of_lt g1) ?_ fun j hj => ?_
    · rw [hocc]
      refine decide_eq_true ?_
      rw [← he]
      exact Nat.le_of_eq g2.symm
    · rw [hocc]
      refine decide_eq_false ?_
      have := g3 j hj
      rw [← he]
      show ¬ (bestB b t).2 ≤ _
      unfold bestB; omega
  · rw [if_neg he]
    refine Lib.index_none fun j hj => ?_
    rw [hocc]
    refine decide_eq_false ?_
    rcases Nat.lt_or_ge j b.size with h | h
    · have := hmax j h
      unfold bestB at hb he
      omega
    · rw [List.drop_eq_nil_of_le (by rw [len_data]; exact h)]
      simp [lcp]; omega

/-- how many bytes of a text the next operation takes -/
def takeD (b t : ByteArray) : Nat := if 2 ≤ (bestB b t).2 then (bestB b t).2 else 1
/-- the operations, the last one first, behind the next step -/
def addD (b t : ByteArray) (r : List OpD) : List OpD :=
  if 2 ≤ (bestB b t).2 then ⟨(bestB b t).1, (bestB b t).2, ByteArray.empty⟩ :: r
  else match r with
    | o :: r' => if o.size = 0 then ⟨o.at_, o.size, o.text ++ t.extract 0 1⟩ :: r' else ⟨0, 0, t.extract 0 1⟩ :: o :: r'
    | [] => [⟨0, 0, t.extract 0 1⟩]
theorem takeD_pos (b t : ByteArray) : 1 ≤ takeD b t := by unfold takeD; split <;> omega
theorem takeD_le (b t : ByteArray) (h : 0 < t.size) : takeD b t ≤ t.size := by
  have := bestB_right b t
  unfold takeD; split <;> omega
theorem addD_copy {b t : ByteArray} {r : List OpD} (h : 2 ≤ (bestB b t).2) : addD b t r = ⟨(bestB b t).1, (bestB b t).2, ByteArray.empty⟩ :: r := by unfold addD; rw [if_pos h]
theorem addD_nil {b t : ByteArray} (h : ¬ 2 ≤ (bestB b t).2) : addD b t [] = [⟨0, 0, t.extract 0 1⟩] := by unfold addD; rw [if_neg h]
theorem addD_join {b t : ByteArray} {o : OpD} {r : List OpD} (h : ¬ 2 ≤ (bestB b t).2) (ho : o.size = 0) : addD b t (o :: r) = ⟨o.at_, o.size, o.text ++ t.extract 0 1⟩ :: r := by
  unfold addD; rw [if_neg h]; simp only; rw [if_pos ho]
theorem addD_ins {b t : ByteArray} {o : OpD} {r : List OpD} (h : ¬ 2 ≤ (bestB b t).2) (ho : ¬ o.size = 0) : addD b t (o :: r) = ⟨0, 0, t.extract 0 1⟩ :: o :: r := by
  unfold addD; rw [if_neg h]; simp only; rw [if_neg ho]
/-- the operations that a text makes behind those that are made already, the last one first -/
def mkD (b t : ByteArray) (r : List OpD) : List OpD :=
  if t.size = 0 then r else mkD b (t.extract (takeD b t) t.size) (addD b t r)
termination_by t.size
decreasing_by
  have h1 := takeD_pos b t
  have h2 := takeD_le b t (by omega)
  simp only [ByteArray.size_extract, Nat.min_self]; omega
theorem mkD_nil {b t : ByteArray} {r : List OpD} (h : t.size = 0) : mkD b t r = r := by rw [mkD, if_pos h]
theorem mkD_step {b t : ByteArray} {r : List OpD} (h : 0 < t.size) : mkD b t r = mkD b (t.extract (takeD b t) t.size) (addD b t r) := by rw [mkD, if_neg (by omega)]

/-- what DeltaMake answers -/
def makeB (b t : ByteArray) : List OpD := if b.size ≤ 8 ∧ t.size ≤ 8 then (mkD b t []).reverse else []
theorem makeB_yes {b t : ByteArray} (h1 : b.size ≤ 8) (h2 : t.size ≤ 8) : makeB b t = (mkD b t []).reverse := by unfold makeB; rw [if_pos ⟨h1, h2⟩]
theorem makeB_no {b t : ByteArray} (h : 8 < b.size ∨ 8 < t.size) : makeB b t = [] := by unfold makeB; rw [if_neg (by omega)]

/-- what holds of the operations made so far: they make the text's head -/
structure MkI (b T t : ByteArray) (r : List OpD) : Prop where
  cat : catD b r.reverse ++ t = T
  fit : ∀ o ∈ r, fitB b.size o = true
  len : r.length ≤ (catD b r.reverse).size
theorem bytes_split (t : ByteArray) (k : Nat) (hk : k ≤ t.size) : t.extract 0 k ++ t.extract k t.size = t := by
  rw [ByteArray.extract_append_extract]
  simp [Nat.max_eq_right hk]
theorem best_out {b t : ByteArray} (h : 0 < (bestB b t).2) : b.extract (bestB b t).1 ((bestB b t).1 + (bestB b t).2) = t.extract 0 (bestB b t).2 := by
  apply bytes_ext
  have g := (bestTo_at _ _ _ h).2.1
  have k := lcp_take (b.data.toList.drop (bestB b t).1) t.data.toList
  change lcp (b.data.toList.drop (bestB b t).1) t.data.toList = (bestB b t).2 at g
  rw [g] at k
  simpa [ByteArray.data_extract, Array.toList_extract, List.extract_eq_take_drop] using k
theorem MkI.step {b T t : ByteArray} {r : List OpD} (h : MkI b T t r) (ht : 0 < t.size) (hT : T.size ≤ 8) (hb : b.size ≤ 8) : MkI b T (t.extract (takeD b t) t.size) (addD b t r) := by
  obtain ⟨h1, h2, h3⟩ := h
  have hsz : (catD b r.reverse).size + t.size = T.size := by rw [← h1, ByteArray.size_append]
  have e1 : (t.extract 0 1).size = 1 := by rw [ByteArray.size_extract]; omega
  by_cases hc : 2 ≤ (bestB b t).2
  · have hl := bestB_left b t
    have hr := bestB_right b t
    have hne : ¬ ((bestB b t).2 : Int) = 0 := by omega
    rw [addD_copy hc]
    have hout : outB b ⟨(bestB b t).1, (bestB b t).2, ByteArray.empty⟩ = t.extract 0 (bestB b t).2 := by
      rw [outB_copy hne]
      rw [← best_out (by omega)]
      rw [show ((bestB b t).1 : Int).toNat = (bestB b t).1 from Int.toNat_natCast _, show (((bestB b t).1 : Int) + ((bestB b t).2 : Int)).toNat = (bestB b t).1 + (bestB b t).2 from by omega]
    have hcat : catD b ((⟨(bestB b t).1, (bestB b t).2, ByteArray.empty⟩ :: r : List OpD).reverse) = catD b r.reverse ++ t.extract 0 (bestB b t).2 := by rw [List.reverse_cons, catD_snoc, hout]
    refine ⟨?_, ?_, ?_⟩
    · rw [hcat, ByteArray.append_assoc]
      rw [show takeD b t = (bestB b t).2 from if_pos hc, bytes_split t _ hr, h1]
    · intro o ho
      rcases List.mem_cons.1 ho with rfl | ho
      · rw [fitB_copy hne]
        simp only [Bool.and_eq_true, inR_iff]
        exact ⟨rfl, ⟨by omega, by omega⟩, by omega, by omega⟩
      · exact h2 o ho
    · rw [hcat, ByteArray.size_append, ByteArray.size_extract, List.length_cons]; omega
  · have htk : takeD b t = 1 := if_neg hc
    have hsp := bytes_split t 1 (by omega)
    rw [htk]
    have new : ∀ r', r = r' → MkI b T (t.extract 1 t.size) (⟨0, 0, t.extract 0 1⟩ :: r') := fun r' e => by
      subst e
      have hcat : catD b ((⟨0, 0, t.extract 0 1⟩ :: r : List OpD).reverse) = catD b r.reverse ++ t.extract 0 1 := by rw [List.reverse_cons, catD_snoc, outB_zero rfl]
      refine ⟨by rw [hcat, ByteArray.append_assoc, hsp, h1], fun o ho => ?_, by rw [hcat, ByteArray.size_append, e1, List.length_cons]; omega⟩
      rcases List.mem_cons.1 ho with rfl | ho
      · rw [fitB_zero rfl]
        simp only [Bool.and_eq_true, inR_iff, e1]
        exact ⟨rfl, by omega, by omega⟩
      · exact h2 o ho
    rcases r with _ | ⟨o, r⟩
    · rw [addD_nil hc]; exact new [] rfl
    · by_cases ho : o.size = 0
      · rw [addD_join hc ho]
        have hcat0 : catD b (o :: r : List OpD).reverse = catD b r.reverse ++ o.text := by rw [List.reverse_cons, catD_snoc, outB_zero ho]
        have hcat : catD b (⟨o.at_, o.size, o.text ++ t.extract 0 1⟩ :: r : List OpD).reverse = catD b r.reverse ++ o.text ++ t.extract 0 1 := by rw [List.reverse_cons, catD_snoc, outB_zero (by exact ho), ByteArray.append_assoc]
        rw [hcat0] at h1 h3 hsz
        rw [ByteArray.size_append] at hsz h3
        have hfo := h2 o (List.mem_cons_self ..)
        rw [fitB_zero ho] at hfo
        simp only [Bool.and_eq_true, inR_iff, decide_eq_true_eq] at hfo
        refine ⟨by rw [hcat, ByteArray.append_assoc, hsp, h1], fun o' ho' => ?_, by rw [hcat, ByteArray.size_append, ByteArray.size_append, e1]; simp only [List.length_cons] at h3 ⊢; omega⟩
        rcases List.mem_cons.1 ho' with rfl | ho'
        · rw [fitB_zero (by exact ho)]
          simp only [Bool.and_eq_true, inR_iff, decide_eq_true_eq, ByteArray.size_append, e1]
          exact ⟨hfo.1, by omega, by omega⟩
        · exact h2 o' (List.mem_cons_of_mem _ ho')
      · rw [addD_ins hc ho]; exact new _ rfl
theorem MkI.done {b T : ByteArray} (hT : T.size ≤ 8) (hb : b.size ≤ 8) : ∀ (n : Nat) (t : ByteArray) (r : List OpD), t.size ≤ n → MkI b T t r → MkI b T ByteArray.empty (mkD b t r) := by
  intro n
  induction n with
  | zero =>
    intro t r hn h
    rw [mkD_nil (by omega)]
    rwa [bytes_of_size (a := t) (by omega)] at h
  | succ n ih =>
    intro t r hn h
    rcases Nat.eq_zero_or_pos t.size with h0 | h0
    · rw [mkD_nil h0]
      rwa [bytes_of_size (a := t) h0] at h
    · rw [mkD_step h0]
      refine ih _ _ ?_ (h.step h0 hT hb)
      have := takeD_pos b t
      rw [ByteArray.size_extract]; omega
theorem mk_inv {b t : ByteArray} (hb : b.size ≤ 8) (ht : t.size ≤ 8) : MkI b t ByteArray.empty (mkD b t []) :=
  MkI.done ht hb t.size t [] (Nat.le_refl _) ⟨by simp [catD], by simp, by simp⟩
/-- a delta makes its text -/
theorem make_ok {b t : ByteArray} (hb : b.size ≤ 8) (ht : t.size ≤ 8) : okD b (makeB b t) = true ∧ strD b (makeB b t) = t := by
  obtain ⟨h1, h2, h3⟩ := mk_inv hb ht
  rw [ByteArray.append_empty] at h1
  have hok : okD b (makeB b t) = true := by
    rw [makeB_yes hb ht]
    refine okD_yes b hb ?_ ?_ ?_
    · rw [List.length_reverse]; rw [h1] at h3; omega
    · unfold fitAll
      rw [List.all_eq_true]
      intro o ho
      exact h2 o (List.mem_reverse.1 ho)
    · rw [h1]; exact ht
  exact ⟨hok, by rw [strD_yes hok, makeB_yes hb ht]; exact h1⟩
theorem make_len {b t : ByteArray} : (makeB b t).length ≤ 8 := by
  by_cases h : b.size ≤ 8 ∧ t.size ≤ 8
  · exact (okD_and (make_ok h.1 h.2).1).2.1
  · unfold makeB; rw [if_neg h]; simp

/-- how long a text is -/
def strLen : Value → Nat
  | .string s => s.size
  | _ => 0

end Go.Proofs.YtnaeglfochnikaaGreat

namespace Go.Proofs.YtnaeglfochnikaaGreat
set_option linter.unusedVariables false
set_option linter.unusedSimpArgs false
open Go.RowKit

/-- the bytes that operations insert -/
def txO (xs : List OpD) : Nat := (xs.map fun o => o.text.size).sum
theorem txO_take {xs : List OpD} {k : Nat} (h : k < xs.length) : txO (xs.take (k + 1)) = txO (xs.take k) + xs[k].text.size := by
  unfold txO
  rw [List.take_succ_eq_append_getElem h, List.map_append, List.sum_append]; simp
/-- the size of operations -/
def szO (xs : List OpD) : Nat := xs.length + txO xs
theorem txO_le {xs : List OpD} {B : Nat} (h : ∀ o ∈ xs, o.text.size ≤ B) : txO xs ≤ xs.length * B := by
  unfold txO
  induction xs with
  | nil => simp
  | cons x xs ih =>
    rw [List.map_cons, List.sum_cons, List.length_cons, Nat.add_mul]
    have h1 := h x List.mem_cons_self
    have h2 := ih fun o ho => h o (List.mem_cons_of_mem _ ho)
    omega
theorem makeB_txt {b t : ByteArray} : ∀ o ∈ makeB b t, o.text.size ≤ 8 := by
  intro o ho
  by_cases h1 : b.size ≤ 8
  · by_cases h2 : t.size ≤ 8
    · exact fit_text (okD_fit (make_ok h1 h2).1 o ho)
    · rw [makeB_no (.inr (by omega))] at ho; cases ho
  · rw [makeB_no (.inl (by omega))] at ho; cases ho
/-- the size of the operations that make a text out of a base -/
def dsz (b t : ByteArray) : Nat := szO (makeB b t)
theorem dsz_le (b t : ByteArray) : dsz b t ≤ 72 := by
  unfold dsz szO
  have h1 := txO_le (xs := makeB b t) makeB_txt
  have h2 := make_len (b := b) (t := t)
  omega
def zObjM : ObjD := ⟨0, [], ByteArray.empty⟩
/-- the text of an object, by its place; nothing where there is no place -/
def txtO (os : List ObjD) (r : Int) : ByteArray := if 0 ≤ r then (os.getD r.toNat zObjM).text else ByteArray.empty
theorem txtO_no {os : List ObjD} {r : Int} (h : r < 0) : txtO os r = ByteArray.empty := by unfold txtO; rw [if_neg (by omega)]
theorem txtO_at {os : List ObjD} {k : Nat} (h : k < os.length) : txtO os (k : Int) = os[k].text := by
  unfold txtO
  rw [if_pos (by omega), Int.toNat_natCast, List.getD_eq_getElem?_getD, List.getElem?_eq_getElem h]; rfl
/-- the best base of a text among the first k entries -/
def bstTo (ps : List PED) (os : List ObjD) (t : ByteArray) : Nat → Int
  | 0 => -1
  | k + 1 => if dsz (txtO os k) t < dsz (txtO os (bstTo ps os t k)) t ∧ depP ps k < 2 then (k : Int) else bstTo ps os t k
theorem bstTo_yes {ps : List PED} {os : List ObjD} {t : ByteArray} {k : Nat} (h1 : dsz (txtO os k) t < dsz (txtO os (bstTo ps os t k)) t) (h2 : depP ps k < 2) : bstTo ps os t (k + 1) = k := by rw [bstTo, if_pos ⟨h1, h2⟩]
theorem bstTo_no {ps : List PED} {os : List ObjD} {t : ByteArray} {k : Nat} (h : ¬ dsz (txtO os k) t < dsz (txtO os (bstTo ps os t k)) t ∨ ¬ depP ps k < 2) : bstTo ps os t (k + 1) = bstTo ps os t k := by
  rw [bstTo, if_neg]
  rintro ⟨h1, h2⟩
  rcases h with h | h
  · exact h h1
  · exact h h2
theorem bstTo_bd (ps : List PED) (os : List ObjD) (t : ByteArray) : ∀ k, -1 ≤ bstTo ps os t k ∧ bstTo ps os t k ≤ (k : Int) - 1 ∧ (0 ≤ bstTo ps os t k → depP ps (bstTo ps os t k).toNat < 2)
  | 0 => ⟨by simp [bstTo], by simp [bstTo], by simp [bstTo]⟩
  | k + 1 => by
    obtain ⟨h1, h2, h3⟩ := bstTo_bd ps os t k
    rw [bstTo]
    split
    · rename_i h
      exact ⟨by omega, by omega, fun _ => by rw [Int.toNat_natCast]; exact h.2⟩
    · exact ⟨h1, by omega, h3⟩
/-- an entry of a pack, behind the entries ps -/
def entM (ps : List PED) (os : List ObjD) (k : Nat) : PED :=
  ⟨(os.getD k zObjM).kind, (os.getD k zObjM).links, bstTo ps os (os.getD k zObjM).text k, makeB (txtO os (bstTo ps os (os.getD k zObjM).text k)) (os.getD k zObjM).text⟩
/-- the pack of the first k objects -/
def mkTo (os : List ObjD) : Nat → List PED
  | 0 => []
  | k + 1 => mkTo os k ++ [entM (mkTo os k) os k]
theorem mkTo_len (os : List ObjD) : ∀ k, (mkTo os k).length = k
  | 0 => rfl
  | k + 1 => by rw [mkTo, List.length_append, mkTo_len os k]; rfl
theorem mkTo_get (os : List ObjD) {i : Nat} : ∀ {k : Nat}, i < k → (mkTo os k)[i]? = some (entM (mkTo os i) os i)
  | 0, h => absurd h (Nat.not_lt_zero _)
  | k + 1, h => by
    rw [mkTo]
    by_cases e : i < k
    · rw [List.getElem?_append_left (by rw [mkTo_len]; exact e)]; exact mkTo_get os e
    · have : i = k := by omega
      subst this
      rw [List.getElem?_append_right (by rw [mkTo_len]; exact Nat.le_refl _), mkTo_len]; simp
theorem mkTo_base (os : List ObjD) {i k : Nat} (h : i < k) : baseAt (mkTo os k) i = bstTo (mkTo os i) os (os.getD i zObjM).text i := by
  unfold baseAt
  rw [List.getD_eq_getElem?_getD, mkTo_get os h]; rfl
theorem mkTo_ok (os : List ObjD) {i k : Nat} (h : i < k) : baseOk (mkTo os k) i = true := by
  rw [baseOk_iff, mkTo_base os h]
  exact ⟨(bstTo_bd _ _ _ _).1, (bstTo_bd _ _ _ _).2.1⟩
theorem mkTo_all (os : List ObjD) (k : Nat) : allTo (baseOk (mkTo os k)) k = true := (allTo_iff _ _).2 fun _ h => mkTo_ok os h
/-- an entry's depth does not depend on what comes later -/
theorem mkTo_dep (os : List ObjD) {k m : Nat} (hm : k ≤ m) : ∀ i, i < k → depP (mkTo os m) i = depP (mkTo os k) i := fun i => by
  induction i using Nat.strongRecOn with
  | _ i ih =>
    intro hi
    have h1 := mkTo_base os (i := i) (k := m) (by omega)
    have h2 := mkTo_base os hi
    have hb := bstTo_bd (mkTo os i) os (os.getD i zObjM).text i
    by_cases h0 : 0 ≤ bstTo (mkTo os i) os (os.getD i zObjM).text i
    · rw [depP_yes (by rw [h1]; exact h0) (mkTo_ok os (by omega)), depP_yes (by rw [h2]; exact h0) (mkTo_ok os hi), h1, h2, ih _ (by omega) (by omega)]
    · rw [depP_no (by rw [h1]; omega), depP_no (by rw [h2]; omega)]
theorem mkTo_dep2 (os : List ObjD) {i k : Nat} (h : i < k) : depP (mkTo os k) i ≤ 2 := by
  have h2 := mkTo_base os h
  have hb := bstTo_bd (mkTo os i) os (os.getD i zObjM).text i
  by_cases h0 : 0 ≤ bstTo (mkTo os i) os (os.getD i zObjM).text i
  · have h3 := hb.2.2 h0
    have hlt : (bstTo (mkTo os i) os (os.getD i zObjM).text i).toNat < i := by omega
    rw [depP_yes (by rw [h2]; exact h0) (mkTo_ok os h), h2, mkTo_dep os (Nat.le_of_lt h) _ hlt]
    omega
  · rw [depP_no (by rw [h2]; omega)]; omega
theorem entM_at {ps : List PED} {os : List ObjD} {k : Nat} (h : k < os.length) : entM ps os k = ⟨os[k].kind, os[k].links, bstTo ps os os[k].text k, makeB (txtO os (bstTo ps os os[k].text k)) os[k].text⟩ := by
  unfold entM
  rw [List.getD_eq_getElem?_getD, List.getElem?_eq_getElem h]; rfl
/-- the pack of objects -/
def mkL (os : List ObjD) : List PED := mkTo os os.length

end Go.Proofs.YtnaeglfochnikaaGreat

namespace Go.Proofs.YtnaeglfochnikaaGreat
set_option linter.unusedVariables false
set_option linter.unusedSimpArgs false
open Go.RowKit

def zObj : ObjD := ⟨0, [], ByteArray.empty⟩
def storeAt (os : List ObjD) (k : Nat) : Bool := objB (os.getD k zObj) && (decide (k = 0) || decide (idB (os.getD (k - 1) zObj) < idB (os.getD k zObj)))
def storeB (os : List ObjD) : Bool := allTo (storeAt os) os.length && decide (os.length ≤ 16)
/-- strictly ascending ids -/
def AscO (os : List ObjD) : Prop := os.Pairwise fun a b => idB a < idB b
theorem objAt {os : List ObjD} {k : Nat} (h : k < os.length) : os.getD k zObj = os[k] := by rw [List.getD_eq_getElem?_getD, List.getElem?_eq_getElem h]; rfl
theorem storeAt_iff {os : List ObjD} {k : Nat} (h : k < os.length) : storeAt os k = true ↔ objB os[k] = true ∧ (k = 0 ∨ idB (os[k - 1]'(by omega)) < idB os[k]) := by
  unfold storeAt
  rw [objAt h, objAt (show k - 1 < os.length by omega)]
  simp
theorem storeB_iff (os : List ObjD) : storeB os = true ↔ (∀ o ∈ os, objB o = true) ∧ AscO os ∧ os.length ≤ 16 := by
  unfold storeB AscO
  rw [Bool.and_eq_true, allTo_iff, decide_eq_true_eq, List.pairwise_iff_getElem]
  constructor
  · rintro ⟨h1, h2⟩
    refine ⟨fun o ho => ?_, ?_, h2⟩
    · obtain ⟨k, hk, rfl⟩ := List.getElem_of_mem ho
      exact ((storeAt_iff hk).1 (h1 k hk)).1
    · intro i j hi hj hij
      induction j with
      | zero => omega
      | succ j ih =>
        have h3 := ((storeAt_iff hj).1 (h1 _ hj)).2
        simp only [Nat.add_sub_cancel] at h3
        rcases h3 with h3 | h3
        · omega
        · rcases Nat.lt_or_ge i j with h | h
          · have := ih (by omega) h; omega
          · have : i = j := by omega
            subst this; exact h3
  · rintro ⟨h1, h2, h3⟩
    refine ⟨fun k hk => (storeAt_iff hk).2 ⟨h1 _ (List.getElem_mem hk), ?_⟩, h3⟩
    rcases Nat.eq_zero_or_pos k with h | h
    · exact .inl h
    · exact .inr (h2 (k - 1) k (by omega) hk (by omega))
theorem storeB_no {os : List ObjD} {k : Nat} (h : k < os.length) (h1 : storeAt os k = false) : storeB os = false := by unfold storeB; rw [allTo_no h h1]; rfl
theorem storeB_big {os : List ObjD} (h : 16 < os.length) : storeB os = false := by unfold storeB; rw [decide_eq_false (by omega : ¬ os.length ≤ 16), Bool.and_false]
theorem storeB_all {os : List ObjD} {n : Nat} (hn : os.length = n) (h : allTo (storeAt os) n = true) : storeB os = decide (n ≤ 16) := by unfold storeB; rw [hn, h, Bool.true_and]
theorem storeB_nil : storeB [] = true := rfl

/-- two objects are equal -/
def sameB (a b : ObjD) : Bool := decide (a.kind = b.kind) && decide (a.links = b.links) && (a.text.data.toList == b.text.data.toList)
theorem sameB_iff (a b : ObjD) : sameB a b = true ↔ a = b := by
  unfold sameB
  obtain ⟨k, l, ⟨⟨t⟩⟩⟩ := a
  obtain ⟨k', l', ⟨⟨t'⟩⟩⟩ := b
  simp [and_assoc]

/-- how many objects come ahead of an id -/
def plc (os : List ObjD) (n : Int) : Nat := (os.takeWhile fun o => decide (idB o < n)).length
theorem plc_le (os : List ObjD) (n : Int) : plc os n ≤ os.length := by
  unfold plc
  exact (List.takeWhile_sublist _).length_le
theorem plc_lt {os : List ObjD} {n : Int} {k : Nat} (h : k < plc os n) : idB (os[k]'(Nat.lt_of_lt_of_le h (plc_le os n))) < n := by
  induction os generalizing k with
  | nil => unfold plc at h; simp at h
  | cons o os ih =>
    by_cases hd : idB o < n
    · rcases k with _ | k
      · exact hd
      · refine ih (k := k) ?_
        unfold plc at h ⊢
        simpa [List.takeWhile_cons, hd] using h
    · unfold plc at h
      simp [List.takeWhile_cons, hd] at h
theorem plc_ge {os : List ObjD} {n : Int} (h : plc os n < os.length) : n ≤ idB os[plc os n] := by
  unfold plc at h ⊢
  induction os with
  | nil => simp at h
  | cons o os ih =>
    by_cases hd : idB o < n
    · simp only [List.takeWhile_cons, decide_eq_true hd, if_true, List.length_cons] at h ⊢
      simpa using ih (by simpa using h)
    · simp only [List.takeWhile_cons, decide_eq_false hd] at h ⊢
      simp; omega
theorem plc_eq {os : List ObjD} {n : Int} {k : Nat} (hk : k ≤ os.length) (h1 : ∀ j (h : j < k), idB (os[j]'(by omega)) < n) (h2 : ∀ h : k < os.length, n ≤ idB os[k]) : plc os n = k := by
  rcases Nat.lt_trichotomy (plc os n) k with h | h | h
  · have := plc_ge (os := os) (n := n) (by omega)
    have := h1 _ h; omega
  · exact h
  · have hl : k < os.length := Nat.lt_of_lt_of_le h (plc_le os n)
    have := plc_lt h
    have := h2 hl; omega

def fndB (os : List ObjD) (n : Int) : Bool := if h : plc os n < os.length then decide (idB os[plc os n] = n) else false
/-- whether an object can be stored -/
def putB (os : List ObjD) (o : ObjD) : Bool := if fndB os (idB o) = true then sameB (os.getD (plc os (idB o)) zObj) o else decide (os.length < 16)
/-- .. and what the store is then -/
def putL (os : List ObjD) (o : ObjD) : List ObjD :=
  if fndB os (idB o) = true then os else if os.length < 16 then os.take (plc os (idB o)) ++ o :: os.drop (plc os (idB o)) else os
theorem fndB_iff (os : List ObjD) (n : Int) : fndB os n = true ↔ ∃ h : plc os n < os.length, idB os[plc os n] = n := by
  unfold fndB
  split
  · simp [*]
  · simp [*]
theorem fndB_mem {os : List ObjD} {n : Int} (h : fndB os n = true) : ∃ o ∈ os, idB o = n := by
  obtain ⟨h1, h2⟩ := (fndB_iff _ _).1 h
  exact ⟨_, List.getElem_mem h1, h2⟩
theorem fndB_not {os : List ObjD} {n : Int} (ha : AscO os) (h : fndB os n = false) : ∀ o ∈ os, idB o ≠ n := by
  intro o ho e
  obtain ⟨k, hk, rfl⟩ := List.getElem_of_mem ho
  have h1 : plc os n ≤ k := by
    rcases Nat.lt_or_ge k (plc os n) with h | h
    · have := plc_lt h; omega
    · exact h
  have h2 := plc_ge (os := os) (n := n) (by omega)
  have h3 : ¬ idB (os[plc os n]'(by omega)) = n := by
    intro e2
    have := (fndB_iff os n).2 ⟨by omega, e2⟩
    rw [h] at this; cases this
  unfold AscO at ha
  rw [List.pairwise_iff_getElem] at ha
  rcases Nat.lt_or_ge (plc os n) k with h4 | h4
  · have := ha (plc os n) k (by omega) hk h4; omega
  · have : k = plc os n := by omega
    subst this; exact h3 e
theorem putB_found {os : List ObjD} {o : ObjD} (h : fndB os (idB o) = true) (hp : putB os o = true) : o ∈ os ∧ putL os o = os := by
  obtain ⟨h1, h2⟩ := (fndB_iff _ _).1 h
  unfold putB at hp
  rw [if_pos h, objAt h1, sameB_iff] at hp
  refine ⟨by rw [← hp]; exact List.getElem_mem h1, ?_⟩
  unfold putL
  rw [if_pos h]
theorem putB_new {os : List ObjD} {o : ObjD} (h : fndB os (idB o) = false) (hp : putB os o = true) : os.length < 16 ∧ putL os o = os.take (plc os (idB o)) ++ o :: os.drop (plc os (idB o)) := by
  unfold putB at hp
  rw [if_neg (by rw [h]; simp), decide_eq_true_eq] at hp
  refine ⟨hp, ?_⟩
  unfold putL
  rw [if_neg (by rw [h]; simp), if_pos hp]
theorem putL_no {os : List ObjD} {o : ObjD} (h : putB os o = false) : putL os o = os := by
  unfold putL
  unfold putB at h
  split
  · rfl
  · rename_i hf
    rw [if_neg hf, decide_eq_false_iff_not] at h
    rw [if_neg h]
theorem putL_mem {os : List ObjD} {o : ObjD} (hp : putB os o = true) (p : ObjD) : p ∈ putL os o ↔ p ∈ os ∨ p = o := by
  rcases hf : fndB os (idB o) with _ | _
  · rw [(putB_new hf hp).2]
    have e : p ∈ os ↔ p ∈ os.take (plc os (idB o)) ∨ p ∈ os.drop (plc os (idB o)) := by
      rw [← List.mem_append, List.take_append_drop]
    rw [e]
    simp only [List.mem_append, List.mem_cons]
    constructor
    · rintro (h | h | h)
      · exact .inl (.inl h)
      · exact .inr h
      · exact .inl (.inr h)
    · rintro ((h | h) | h)
      · exact .inl h
      · exact .inr (.inr h)
      · exact .inr (.inl h)
  · obtain ⟨h1, h2⟩ := putB_found hf hp
    rw [h2]
    constructor
    · exact .inl
    · rintro (h | rfl)
      · exact h
      · exact h1
theorem putL_asc {os : List ObjD} {o : ObjD} (ha : AscO os) : AscO (putL os o) := by
  rcases hp : putB os o with _ | _
  · rw [putL_no hp]; exact ha
  · rcases hf : fndB os (idB o) with _ | _
    · rw [(putB_new hf hp).2]
      have hn := fndB_not ha hf
      have hk := plc_le os (idB o)
      have hd : ∀ p ∈ os.drop (plc os (idB o)), idB o < idB p := by
        intro p hp
        obtain ⟨j, hj, rfl⟩ := List.getElem_of_mem hp
        rw [List.length_drop] at hj
        rw [List.getElem_drop]
        have h1 := plc_ge (os := os) (n := idB o) (by omega)
        have h2 := hn _ (List.getElem_mem (show plc os (idB o) + j < os.length by omega))
        rcases Nat.eq_zero_or_pos j with h | h
        · subst h
          simp only [Nat.add_zero] at h2 ⊢
          omega
        · unfold AscO at ha
          rw [List.pairwise_iff_getElem] at ha
          have := ha (plc os (idB o)) (plc os (idB o) + j) (by omega) (by omega) (by omega)
          omega
      have ht : ∀ p ∈ os.take (plc os (idB o)), idB p < idB o := by
        intro p hp
        obtain ⟨j, hj, rfl⟩ := List.getElem_of_mem hp
        rw [List.length_take] at hj
        rw [List.getElem_take]
        exact plc_lt (by omega)
      unfold AscO at ha ⊢
      rw [List.pairwise_append, List.pairwise_cons]
      refine ⟨ha.sublist (List.take_sublist _ _), ⟨hd, ha.sublist (List.drop_sublist _ _)⟩, ?_⟩
      intro a h1 b h2
      have h3 := ht a h1
      rcases List.mem_cons.1 h2 with rfl | h2
      · exact h3
      · have := hd b h2; omega
    · rw [(putB_found hf hp).2]; exact ha
theorem putL_len {os : List ObjD} {o : ObjD} : os.length ≤ (putL os o).length ∧ (putL os o).length ≤ os.length + 1 ∧ (os.length ≤ 16 → (putL os o).length ≤ 16) := by
  unfold putL
  split
  · exact ⟨Nat.le_refl _, by omega, fun h => h⟩
  · split
    · have := plc_le os (idB o)
      simp only [List.length_append, List.length_take, List.length_cons, List.length_drop]
      refine ⟨by omega, by omega, fun _ => by omega⟩
    · exact ⟨Nat.le_refl _, by omega, fun h => h⟩
theorem putL_objs {os : List ObjD} {o : ObjD} (h : ∀ p ∈ os, objB p = true) (ho : objB o = true) : ∀ p ∈ putL os o, objB p = true := by
  rcases hp : putB os o with _ | _
  · rw [putL_no hp]; exact h
  · intro p hm
    rcases (putL_mem hp p).1 hm with h1 | rfl
    · exact h p h1
    · exact ho
theorem putL_store {os : List ObjD} {o : ObjD} (h : storeB os = true) (ho : objB o = true) : storeB (putL os o) = true := by
  obtain ⟨h1, h2, h3⟩ := (storeB_iff _).1 h
  exact (storeB_iff _).2 ⟨putL_objs h1 ho, putL_asc h2, putL_len.2.2 h3⟩

/-- objects are stored one after the other -/
def allP : List ObjD → List ObjD → List ObjD × Bool
  | s, [] => (s, true)
  | s, o :: l => if putB s o = true then allP (putL s o) l else ([], false)
theorem allP_app (a b : List ObjD) : ∀ (s : List ObjD), allP s (a ++ b) = if (allP s a).2 = true then allP (allP s a).1 b else ([], false) := by
  induction a with
  | nil => intro s; simp [allP]
  | cons o a ih =>
    intro s
    simp only [List.cons_append, allP]
    by_cases h : putB s o = true
    · simp only [h, if_true]; exact ih _
    · simp [h]
theorem allP_step {s l : List ObjD} {k : Nat} (hk : k < l.length) (h : (allP s (l.take k)).2 = true) (h2 : putB (allP s (l.take k)).1 l[k] = true) : allP s (l.take (k + 1)) = (putL (allP s (l.take k)).1 l[k], true) := by
  rw [List.take_succ_eq_append_getElem hk, allP_app, if_pos h, allP, if_pos h2, allP]
theorem allP_fail {s l : List ObjD} {k : Nat} (hk : k < l.length) (h : (allP s (l.take k)).2 = true) (h2 : putB (allP s (l.take k)).1 l[k] = false) : allP s l = ([], false) := by
  have e : l = l.take k ++ l[k] :: l.drop (k + 1) := by
    rw [← List.drop_eq_getElem_cons hk, List.take_append_drop]
  have h3 := allP_app (l.take k) (l[k] :: l.drop (k + 1)) s
  rw [← e, if_pos h, allP, if_neg (by rw [h2]; simp)] at h3
  exact h3
theorem allP_inv {P : List ObjD → Prop} (l : List ObjD) (hstep : ∀ s o, P s → o ∈ l → putB s o = true → P (putL s o)) : ∀ s, P s → (allP s l).2 = true → P (allP s l).1 := by
  induction l with
  | nil => intro s h _; exact h
  | cons o l ih =>
    intro s h hb
    simp only [allP] at hb ⊢
    by_cases hp : putB s o = true
    · rw [if_pos hp] at hb ⊢
      exact ih (fun s p hs hm => hstep s p hs (List.mem_cons_of_mem _ hm)) _ (hstep s o h List.mem_cons_self hp) hb
    · rw [if_neg hp] at hb; cases hb
theorem allP_no {s l : List ObjD} (h : (allP s l).2 = false) : (allP s l).1 = [] := by
  induction l generalizing s with
  | nil => cases h
  | cons o l ih =>
    simp only [allP] at h ⊢
    by_cases hp : putB s o = true
    · rw [if_pos hp] at h ⊢
      exact ih h
    · rw [if_neg hp]
theorem allP_store {s l : List ObjD} (h : storeB s = true) (hl : ∀ o ∈ l, objB o = true) : storeB (allP s l).1 = true := by
  rcases hb : (allP s l).2 with _ | _
  · rw [allP_no hb]; rfl
  · exact allP_inv (P := fun s => storeB s = true) l (fun s o hs hm _ => putL_store hs (hl o hm)) s h hb
theorem allP_len (s l : List ObjD) : (allP s l).1.length ≤ s.length + l.length := by
  induction l generalizing s with
  | nil => exact Nat.le_refl _
  | cons o l ih =>
    simp only [allP]
    by_cases hp : putB s o = true
    · rw [if_pos hp]
      have := ih (putL s o)
      have := (putL_len (os := s) (o := o)).2.1
      simp only [List.length_cons]
      omega
    · rw [if_neg hp]; simp
theorem allP_ge {s l : List ObjD} (h : (allP s l).2 = true) : s.length ≤ (allP s l).1.length :=
  allP_inv (P := fun t => s.length ≤ t.length) l (fun t o ht _ _ => Nat.le_trans ht putL_len.1) s (Nat.le_refl _) h
theorem allP_mem {s l : List ObjD} (h : (allP s l).2 = true) (p : ObjD) : p ∈ (allP s l).1 ↔ p ∈ s ∨ p ∈ l := by
  induction l generalizing s with
  | nil => simp [allP]
  | cons o l ih =>
    simp only [allP] at h ⊢
    by_cases hp : putB s o = true
    · rw [if_pos hp] at h ⊢
      rw [ih h, putL_mem hp, List.mem_cons, or_assoc]
    · rw [if_neg hp] at h; cases h

/-- the object with an id -/
def getO (os : List ObjD) (n : Int) : Option ObjD := os.find? fun o => decide (idB o = n)
theorem getO_mem {os : List ObjD} {o : ObjD} (ha : AscO os) (h : o ∈ os) : getO os (idB o) = some o := by
  unfold getO
  induction os with
  | nil => cases h
  | cons p os ih =>
    unfold AscO at ha
    obtain ⟨h1, h2⟩ := List.pairwise_cons.1 ha
    rcases List.mem_cons.1 h with rfl | h
    · simp
    · have := h1 o h
      rw [List.find?_cons_of_neg (by simp; omega)]
      exact ih h2 h
theorem getO_some {os : List ObjD} {n : Int} {o : ObjD} (h : getO os n = some o) : o ∈ os ∧ idB o = n := by
  unfold getO at h
  exact ⟨List.mem_of_find?_eq_some h, by simpa using List.find?_some h⟩
theorem getO_none {os : List ObjD} {n : Int} : getO os n = none ↔ ∀ o ∈ os, idB o ≠ n := by
  unfold getO
  simp
theorem getO_place {os : List ObjD} {n : Int} (ha : AscO os) : getO os n = if fndB os n = true then some (os.getD (plc os n) zObj) else none := by
  split
  · rename_i h
    obtain ⟨h1, h2⟩ := (fndB_iff _ _).1 h
    rw [objAt h1]
    have := getO_mem ha (List.getElem_mem h1)
    rw [h2] at this
    exact this
  · rename_i h
    rw [getO_none]
    exact fndB_not ha (by simpa using h)

end Go.Proofs.YtnaeglfochnikaaGreat
