/-
  What DeltaMake computes, in plain Lean: the longest part of a base with which a text begins, and the operations that make a text. No program in sight.
-/
import Derived.Test.YtegfdckejncbdaaDeltaX
import Derived.Lib.IndexLaws
namespace Go.Proofs.Ytegfdckejncbdaa
set_option linter.unusedVariables false
set_option linter.unusedSimpArgs false
open Go.RowKit

/-- with how many bytes two lists begin alike -/
def lcp : List UInt8 → List UInt8 → Nat
  | a :: x, b :: y => if a = b then lcp x y + 1 else 0
  | _, _ => 0
theorem lcp_left (x y : List UInt8) : lcp x y ≤ x.length := by
  induction x generalizing y with
  | nil => simp [lcp]
  | cons a x ih =>
    rcases y with _ | ⟨b, y⟩
    · simp [lcp]
    · have := ih y
      simp only [lcp, List.length_cons]; split <;> omega
theorem lcp_right (x y : List UInt8) : lcp x y ≤ y.length := by
  induction x generalizing y with
  | nil => simp [lcp]
  | cons a x ih =>
    rcases y with _ | ⟨b, y⟩
    · simp [lcp]
    · have := ih y
      simp only [lcp, List.length_cons]; split <;> omega
theorem lcp_take (x y : List UInt8) : x.take (lcp x y) = y.take (lcp x y) := by
  induction x generalizing y with
  | nil => simp [lcp]
  | cons a x ih =>
    rcases y with _ | ⟨b, y⟩
    · simp [lcp]
    · simp only [lcp]; split
      · rename_i h; simp [h, ih y]
      · simp
theorem lcp_pre (x y : List UInt8) (k : Nat) (hk : k ≤ y.length) : (y.take k).isPrefixOf x = decide (k ≤ lcp x y) := by
  induction x generalizing y k with
  | nil =>
    rcases k with _ | k
    · simp
    · rcases y with _ | ⟨b, y⟩
      · simp at hk
      · simp [lcp, List.isPrefixOf]
  | cons a x ih =>
    rcases k with _ | k
    · simp
    · rcases y with _ | ⟨b, y⟩
      · simp at hk
      · have := ih y k (by simpa using hk)
        simp only [List.take_succ_cons, List.isPrefixOf, lcp, this]
        by_cases h : a = b
        · subst h; simp
        · have h2 : (b == a) = false := by simpa using fun e => h e.symm
          simp [h, h2]
theorem lcp_more (x y : List UInt8) (n : Nat) (hx : n < x.length) (hy : n < y.length) (h : n ≤ lcp x y) (he : x[n] = y[n]) : n + 1 ≤ lcp x y := by
  induction x generalizing y n with
  | nil => simp at hx
  | cons a x ih =>
    rcases y with _ | ⟨b, y⟩
    · simp at hy
    · rcases n with _ | n
      · simp at he; subst he; simp [lcp]
      · have h1 : a = b := by
          by_cases h1 : a = b
          · exact h1
          · simp [lcp, h1] at h
        subst h1
        simp only [lcp, if_true] at h ⊢
        have := ih y n (by simpa using hx) (by simpa using hy) (by omega) (by simpa using he)
        omega
theorem lcp_done (x y : List UInt8) (n : Nat) (hx : n < x.length) (hy : n < y.length) (h : n ≤ lcp x y) (he : x[n] ≠ y[n]) : lcp x y = n := by
  induction x generalizing y n with
  | nil => simp at hx
  | cons a x ih =>
    rcases y with _ | ⟨b, y⟩
    · simp at hy
    · rcases n with _ | n
      · simp at he; simp [lcp, he]
      · have h1 : a = b := by
          by_cases h1 : a = b
          · exact h1
          · simp [lcp, h1] at h
        subst h1
        simp only [lcp, if_true] at h ⊢
        have := ih y n (by simpa using hx) (by simpa using hy) (by omega) (by simpa using he)
        omega

/-- the place and the size of the first longest part of b, among its first i places, with which t begins -/
def bestTo (b t : List UInt8) : Nat → Nat × Nat
  | 0 => (0, 0)
  | i + 1 => if (bestTo b t i).2 < lcp (b.drop i) t then (i, lcp (b.drop i) t) else bestTo b t i
theorem bestTo_yes {b t : List UInt8} {i : Nat} (h : (bestTo b t i).2 < lcp (b.drop i) t) : bestTo b t (i + 1) = (i, lcp (b.drop i) t) := by rw [bestTo, if_pos h]
theorem bestTo_no {b t : List UInt8} {i : Nat} (h : ¬ (bestTo b t i).2 < lcp (b.drop i) t) : bestTo b t (i + 1) = bestTo b t i := by rw [bestTo, if_neg h]
theorem bestTo_max (b t : List UInt8) (i : Nat) : ∀ j, j < i → lcp (b.drop j) t ≤ (bestTo b t i).2 := by
  induction i with
  | zero => intro j hj; omega
  | succ i ih =>
    intro j hj
    by_cases h : (bestTo b t i).2 < lcp (b.drop i) t
    · rw [bestTo_yes h]
      rcases Nat.lt_or_ge j i with hji | hji
      · have := ih j hji; simp only; omega
      · obtain rfl : j = i := by omega
        exact Nat.le_refl _
    · rw [bestTo_no h]
      rcases Nat.lt_or_ge j i with hji | hji
      · exact ih j hji
      · obtain rfl : j = i := by omega
        omega
theorem bestTo_at (b t : List UInt8) (i : Nat) : 0 < (bestTo b t i).2 → (bestTo b t i).1 < i ∧ lcp (b.drop (bestTo b t i).1) t = (bestTo b t i).2 ∧ ∀ j, j < (bestTo b t i).1 → lcp (b.drop j) t < (bestTo b t i).2 := by
  induction i with
  | zero => intro h; simp [bestTo] at h
  | succ i ih =>
    by_cases h : (bestTo b t i).2 < lcp (b.drop i) t
    · rw [bestTo_yes h]
      intro _
      exact ⟨Nat.lt_succ_self _, rfl, fun j hj => Nat.lt_of_le_of_lt (bestTo_max b t i j hj) h⟩
    · rw [bestTo_no h]
      intro h0
      obtain ⟨h1, h2, h3⟩ := ih h0
      exact ⟨by omega, h2, h3⟩
theorem bestTo_zero (b t : List UInt8) (i : Nat) : (bestTo b t i).2 = 0 → bestTo b t i = (0, 0) := by
  induction i with
  | zero => intro _; rfl
  | succ i ih =>
    by_cases h : (bestTo b t i).2 < lcp (b.drop i) t
    · rw [bestTo_yes h]; intro h0; simp only at h0; omega
    · rw [bestTo_no h]; exact ih

/-- of texts -/
def bestB (b t : ByteArray) : Nat × Nat := bestTo b.data.toList t.data.toList b.size
theorem len_data (s : ByteArray) : s.data.toList.length = s.size := rfl
theorem bestB_right (b t : ByteArray) : (bestB b t).2 ≤ t.size := by
  rcases Nat.eq_zero_or_pos (bestB b t).2 with h | h
  · omega
  · have := (bestTo_at _ _ _ h).2.1
    unfold bestB
    rw [← this, ← len_data]; exact lcp_right _ _
theorem bestB_left (b t : ByteArray) : (bestB b t).1 + (bestB b t).2 ≤ b.size := by
  rcases Nat.eq_zero_or_pos (bestB b t).2 with h | h
  · have := bestTo_zero _ _ _ h
    unfold bestB
    rw [this]; exact Nat.zero_le _
  · have h1 := (bestTo_at _ _ _ h).2.1
    have h0 := (bestTo_at _ _ _ h).1
    have h2 := lcp_left (b.data.toList.drop (bestB b t).1) t.data.toList
    rw [List.length_drop, len_data] at h2
    unfold bestB at *
    rw [h1] at h2
    omega
/-- what strings.Index tells of the first k bytes of a text -/
theorem index_best (b t : ByteArray) (k : Nat) (h1 : 1 ≤ k) (hk : k ≤ t.size) (hb : (bestB b t).2 ≤ k) : Lib.index b.data.toList (t.data.toList.take k) = if (bestB b t).2 = k then ((bestB b t).1 : Int) else -1 := by
  have hocc : ∀ j, Lib.occAt b.data.toList (t.data.toList.take k) j = decide (k ≤ lcp (b.data.toList.drop j) t.data.toList) := fun j => by
    unfold Lib.occAt
    exact lcp_pre _ _ k hk
  have hmax := bestTo_max b.data.toList t.data.toList b.size
  by_cases he : (bestB b t).2 = k
  · rw [if_pos he]
    obtain ⟨g1, g2, g3⟩ := bestTo_at b.data.toList t.data.toList b.size (by show 0 < (bestB b t).2; omega)
    refine Lib.index_first (Nat.le_of_lt g1) ?_ fun j hj => ?_
    · rw [hocc]
      refine decide_eq_true ?_
      rw [← he]
      exact Nat.le_of_eq g2.symm
    · rw [hocc]
      refine decide_eq_false ?_
      have := g3 j hj
      rw [← he]
      show ¬ (bestB b t).2 ≤ _
      unfold bestB; omega
  · rw [if_neg he]
    refine Lib.index_none fun j hj => ?_
    rw [hocc]
    refine decide_eq_false ?_
    rcases Nat.lt_or_ge j b.size with h | h
    · have := hmax j h
      unfold bestB at hb he
      omega
    · rw [List.drop_eq_nil_of_le (by rw [len_data]; exact h)]
      simp [lcp]; omega

/-- how many bytes of a text the next operation takes -/
def takeD (b t : ByteArray) : Nat := if 2 ≤ (bestB b t).2 then (bestB b t).2 else 1
/-- the operations, the last one first, behind the next step -/
def addD (b t : ByteArray) (r : List OpD) : List OpD :=
  if 2 ≤ (bestB b t).2 then ⟨(bestB b t).1, (bestB b t).2, ByteArray.empty⟩ :: r
  else match r with
    | o :: r' => if o.size = 0 then ⟨o.at_, o.size, o.text ++ t.extract 0 1⟩ :: r' else ⟨0, 0, t.extract 0 1⟩ :: o :: r'
    | [] => [⟨0, 0, t.extract 0 1⟩]
theorem takeD_pos (b t : ByteArray) : 1 ≤ takeD b t := by unfold takeD; split <;> omega
theorem takeD_le (b t : ByteArray) (h : 0 < t.size) : takeD b t ≤ t.size := by
  have := bestB_right b t
  unfold takeD; split <;> omega
theorem addD_copy {b t : ByteArray} {r : List OpD} (h : 2 ≤ (bestB b t).2) : addD b t r = ⟨(bestB b t).1, (bestB b t).2, ByteArray.empty⟩ :: r := by unfold addD; rw [if_pos h]
theorem addD_nil {b t : ByteArray} (h : ¬ 2 ≤ (bestB b t).2) : addD b t [] = [⟨0, 0, t.extract 0 1⟩] := by unfold addD; rw [if_neg h]
theorem addD_join {b t : ByteArray} {o : OpD} {r : List OpD} (h : ¬ 2 ≤ (bestB b t).2) (ho : o.size = 0) : addD b t (o :: r) = ⟨o.at_, o.size, o.text ++ t.extract 0 1⟩ :: r := by
  unfold addD; rw [if_neg h]; simp only; rw [if_pos ho]
theorem addD_ins {b t : ByteArray} {o : OpD} {r : List OpD} (h : ¬ 2 ≤ (bestB b t).2) (ho : ¬ o.size = 0) : addD b t (o :: r) = ⟨0, 0, t.extract 0 1⟩ :: o :: r := by
  unfold addD; rw [if_neg h]; simp only; rw [if_neg ho]
/-- the operations that a text makes behind those that are made already, the last one first -/
def mkD (b t : ByteArray) (r : List OpD) : List OpD :=
  if t.size = 0 then r else mkD b (t.extract (takeD b t) t.size) (addD b t r)
termination_by t.size
decreasing_by
  have h1 := takeD_pos b t
  have h2 := takeD_le b t (by omega)
  simp only [ByteArray.size_extract, Nat.min_self]; omega
theorem mkD_nil {b t : ByteArray} {r : List OpD} (h : t.size = 0) : mkD b t r = r := by rw [mkD, if_pos h]
theorem mkD_step {b t : ByteArray} {r : List OpD} (h : 0 < t.size) : mkD b t r = mkD b (t.extract (takeD b t) t.size) (addD b t r) := by rw [mkD, if_neg (by omega)]

/-- what DeltaMake answers -/
def makeB (b t : ByteArray) : List OpD := if b.size ≤ 8 ∧ t.size ≤ 8 then (mkD b t []).reverse else []
theorem makeB_yes {b t : ByteArray} (h1 : b.size ≤ 8) (h2 : t.size ≤ 8) : makeB b t = (mkD b t []).reverse := by unfold makeB; rw [if_pos ⟨h1, h2⟩]
theorem makeB_no {b t : ByteArray} (h : 8 < b.size ∨ 8 < t.size) : makeB b t = [] := by unfold makeB; rw [if_neg (by omega)]

/-- what holds of the operations made so far: they make the text's head -/
structure MkI (b T t : ByteArray) (r : List OpD) : Prop where
  cat : catD b r.reverse ++ t = T
  fit : ∀ o ∈ r, fitB b.size o = true
  len : r.length ≤ (catD b r.reverse).size
theorem bytes_split (t : ByteArray) (k : Nat) (hk : k ≤ t.size) : t.extract 0 k ++ t.extract k t.size = t := by
  rw [ByteArray.extract_append_extract]
  simp [Nat.max_eq_right hk]
theorem best_out {b t : ByteArray} (h : 0 < (bestB b t).2) : b.extract (bestB b t).1 ((bestB b t).1 + (bestB b t).2) = t.extract 0 (bestB b t).2 := by
  apply bytes_ext
  have g := (bestTo_at _ _ _ h).2.1
  have k := lcp_take (b.data.toList.drop (bestB b t).1) t.data.toList
  change lcp (b.data.toList.drop (bestB b t).1) t.data.toList = (bestB b t).2 at g
  rw [g] at k
  simpa [ByteArray.data_extract, Array.toList_extract, List.extract_eq_take_drop] using k
theorem MkI.step {b T t : ByteArray} {r : List OpD} (h : MkI b T t r) (ht : 0 < t.size) (hT : T.size ≤ 8) (hb : b.size ≤ 8) : MkI b T (t.extract (takeD b t) t.size) (addD b t r) := by
  obtain ⟨h1, h2, h3⟩ := h
  have hsz : (catD b r.reverse).size + t.size = T.size := by rw [← h1, ByteArray.size_append]
  have e1 : (t.extract 0 1).size = 1 := by rw [ByteArray.size_extract]; omega
  by_cases hc : 2 ≤ (bestB b t).2
  · have hl := bestB_left b t
    have hr := bestB_right b t
    have hne : ¬ ((bestB b t).2 : Int) = 0 := by omega
    rw [addD_copy hc]
    have hout : outB b ⟨(bestB b t).1, (bestB b t).2, ByteArray.empty⟩ = t.extract 0 (bestB b t).2 := by
      rw [outB_copy hne]
      rw [← best_out (by omega)]
      rw [show ((bestB b t).1 : Int).toNat = (bestB b t).1 from Int.toNat_natCast _, show (((bestB b t).1 : Int) + ((bestB b t).2 : Int)).toNat = (bestB b t).1 + (bestB b t).2 from by omega]
    have hcat : catD b ((⟨(bestB b t).1, (bestB b t).2, ByteArray.empty⟩ :: r : List OpD).reverse) = catD b r.reverse ++ t.extract 0 (bestB b t).2 := by rw [List.reverse_cons, catD_snoc, hout]
    refine ⟨?_, ?_, ?_⟩
    · rw [hcat, ByteArray.append_assoc]
      rw [show takeD b t = (bestB b t).2 from if_pos hc, bytes_split t _ hr, h1]
    · intro o ho
      rcases List.mem_cons.1 ho with rfl | ho
      · rw [fitB_copy hne]
        simp only [Bool.and_eq_true, inR_iff]
        exact ⟨rfl, ⟨by omega, by omega⟩, by omega, by omega⟩
      · exact h2 o ho
    · rw [hcat, ByteArray.size_append, ByteArray.size_extract, List.length_cons]; omega
  · have htk : takeD b t = 1 := if_neg hc
    have hsp := bytes_split t 1 (by omega)
    rw [htk]
    have new : ∀ r', r = r' → MkI b T (t.extract 1 t.size) (⟨0, 0, t.extract 0 1⟩ :: r') := fun r' e => by
      subst e
      have hcat : catD b ((⟨0, 0, t.extract 0 1⟩ :: r : List OpD).reverse) = catD b r.reverse ++ t.extract 0 1 := by rw [List.reverse_cons, catD_snoc, outB_zero rfl]
      refine ⟨by rw [hcat, ByteArray.append_assoc, hsp, h1], fun o ho => ?_, by rw [hcat, ByteArray.size_append, e1, List.length_cons]; omega⟩
      rcases List.mem_cons.1 ho with rfl | ho
      · rw [fitB_zero rfl]
        simp only [Bool.and_eq_true, inR_iff, e1]
        exact ⟨rfl, by omega, by omega⟩
      · exact h2 o ho
    rcases r with _ | ⟨o, r⟩
    · rw [addD_nil hc]; exact new [] rfl
    · by_cases ho : o.size = 0
      · rw [addD_join hc ho]
        have hcat0 : catD b (o :: r : List OpD).reverse = catD b r.reverse ++ o.text := by rw [List.reverse_cons, catD_snoc, outB_zero ho]
        have hcat : catD b (⟨o.at_, o.size, o.text ++ t.extract 0 1⟩ :: r : List OpD).reverse = catD b r.reverse ++ o.text ++ t.extract 0 1 := by rw [List.reverse_cons, catD_snoc, outB_zero (by exact ho), ByteArray.append_assoc]
        rw [hcat0] at h1 h3 hsz
        rw [ByteArray.size_append] at hsz h3
        have hfo := h2 o (List.mem_cons_self ..)
        rw [fitB_zero ho] at hfo
        simp only [Bool.and_eq_true, inR_iff, decide_eq_true_eq] at hfo
        refine ⟨by rw [hcat, ByteArray.append_assoc, hsp, h1], fun o' ho' => ?_, by rw [hcat, ByteArray.size_append, ByteArray.size_append, e1]; simp only [List.length_cons] at h3 ⊢; omega⟩
        rcases List.mem_cons.1 ho' with rfl | ho'
        · rw [fitB_zero (by exact ho)]
          simp only [Bool.and_eq_true, inR_iff, decide_eq_true_eq, ByteArray.size_append, e1]
          exact ⟨hfo.1, by omega, by omega⟩
        · exact h2 o' (List.mem_cons_of_mem _ ho')
      · rw [addD_ins hc ho]; exact new _ rfl
theorem MkI.done {b T : ByteArray} (hT : T.size ≤ 8) (hb : b.size ≤ 8) : ∀ (n : Nat) (t : ByteArray) (r : List OpD), t.size ≤ n → MkI b T t r → MkI b T ByteArray.empty (mkD b t r) := by
  intro n
  induction n with
  | zero =>
    intro t r hn h
    rw [mkD_nil (by omega)]
    rwa [bytes_of_size (a := t) (by omega)] at h
  | succ n ih =>
    intro t r hn h
    rcases Nat.eq_zero_or_pos t.size with h0 | h0
    · rw [mkD_nil h0]
      rwa [bytes_of_size (a := t) h0] at h
    · rw [mkD_step h0]
      refine ih _ _ ?_ (h.step h0 hT hb)
      have := takeD_pos b t
      rw [ByteArray.size_extract]; omega
theorem mk_inv {b t : ByteArray} (hb : b.size ≤ 8) (ht : t.size ≤ 8) : MkI b t ByteArray.empty (mkD b t []) :=
  MkI.done ht hb t.size t [] (Nat.le_refl _) ⟨by simp [catD], by simp, by simp⟩
/-- a delta makes its text -/
theorem make_ok {b t : ByteArray} (hb : b.size ≤ 8) (ht : t.size ≤ 8) : okD b (makeB b t) = true ∧ strD b (makeB b t) = t := by
  obtain ⟨h1, h2, h3⟩ := mk_inv hb ht
  rw [ByteArray.append_empty] at h1
  have hok : okD b (makeB b t) = true := by
    rw [makeB_yes hb ht]
    refine okD_yes b hb ?_ ?_ ?_
    · rw [List.length_reverse]; rw [h1] at h3; omega
    · unfold fitAll
      rw [List.all_eq_true]
      intro o ho
      exact h2 o (List.mem_reverse.1 ho)
    · rw [h1]; exact ht
  exact ⟨hok, by rw [strD_yes hok, makeB_yes hb ht]; exact h1⟩
theorem make_len {b t : ByteArray} : (makeB b t).length ≤ 8 := by
  by_cases h : b.size ≤ 8 ∧ t.size ≤ 8
  · exact (okD_and (make_ok h.1 h.2).1).2.1
  · unfold makeB; rw [if_neg h]; simp

/-- how long a text is -/
def strLen : Value → Nat
  | .string s => s.size
  | _ => 0

end Go.Proofs.Ytegfdckejncbdaa
