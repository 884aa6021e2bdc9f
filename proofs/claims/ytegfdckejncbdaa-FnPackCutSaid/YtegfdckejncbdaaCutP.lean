/-
  Plain words: the first entries of a pack are a pack, with the first objects; how a slice's first elements read. No condition.
-/
import Derived.Test.YtegfdckejncbdaaDrawU
import Derived.Test.YtegfdckejncbdaaSameO
namespace Go.Proofs.Ytegfdckejncbdaa
set_option linter.unusedVariables false
set_option linter.unusedSimpArgs false
open Go.RowKit

section
variable {ps : List PED} {k i : Nat}
theorem getD_take {α : Type} (xs : List α) (z : α) (h : i < k) : (xs.take k).getD i z = xs.getD i z := by
  rw [List.getD_eq_getElem?_getD, List.getD_eq_getElem?_getD, List.getElem?_take, if_pos h]
theorem baseAt_take (h : i < k) : baseAt (ps.take k) i = baseAt ps i := by unfold baseAt; rw [getD_take _ _ h]
theorem opsAt_take (h : i < k) : opsAt (ps.take k) i = opsAt ps i := by unfold opsAt; rw [getD_take _ _ h]
theorem depP_take (i : Nat) : i < k → depP (ps.take k) i = depP ps i := by
  induction i using Nat.strongRecOn with
  | _ i ih =>
    intro h
    by_cases hc : 0 ≤ baseAt ps i ∧ (baseAt ps i).toNat < i
    · have e1 : depP (ps.take k) i = depP ps (baseAt ps i).toNat + 1 := by rw [depP, baseAt_take h, dif_pos hc, ih _ hc.2 (by omega)]
      have e2 : depP ps i = depP ps (baseAt ps i).toNat + 1 := by rw [depP, dif_pos hc]
      exact e1.trans e2.symm
    · have e1 : depP (ps.take k) i = 0 := by rw [depP, baseAt_take h, dif_neg hc]
      have e2 : depP ps i = 0 := by rw [depP, dif_neg hc]
      exact e1.trans e2.symm
theorem txtP_take (i : Nat) : i < k → txtP (ps.take k) i = txtP ps i := by
  induction i using Nat.strongRecOn with
  | _ i ih =>
    intro h
    by_cases hc : 0 ≤ baseAt ps i ∧ (baseAt ps i).toNat < i
    · have e1 : txtP (ps.take k) i = strD (txtP ps (baseAt ps i).toNat) (opsAt ps i) := by rw [txtP, baseAt_take h, opsAt_take h, dif_pos hc, ih _ hc.2 (by omega)]
      have e2 : txtP ps i = strD (txtP ps (baseAt ps i).toNat) (opsAt ps i) := by rw [txtP, dif_pos hc]
      exact e1.trans e2.symm
    · have e1 : txtP (ps.take k) i = strD ByteArray.empty (opsAt ps i) := by rw [txtP, baseAt_take h, opsAt_take h, dif_neg hc]
      have e2 : txtP ps i = strD ByteArray.empty (opsAt ps i) := by rw [txtP, dif_neg hc]
      exact e1.trans e2.symm
theorem btxtP_take (h : i < k) (hb : baseOk ps i = true) : btxtP (ps.take k) i = btxtP ps i := by
  rw [baseOk_iff] at hb
  unfold btxtP
  rw [baseAt_take h]
  by_cases hc : 0 ≤ baseAt ps i
  · rw [if_pos hc, if_pos hc, txtP_take _ (by omega)]
  · rw [if_neg hc, if_neg hc]
theorem objP_take (h : i < k) : objP (ps.take k) i = objP ps i := by unfold objP; rw [getD_take _ _ h, txtP_take _ h]
theorem packB_take (h : packB ps = true) (hk : k ≤ ps.length) : packB (ps.take k) = true := by
  obtain ⟨h1, h2, h3, h4⟩ := packB_and h
  have hl : (ps.take k).length = k := by rw [List.length_take]; omega
  have hb : ∀ i, i < k → baseOk ps i = true := fun i hi => (allTo_iff _ _).1 h2 i (by omega)
  refine packB_yes (by omega) ?_ ?_ ?_
  · unfold linkB
    rw [hl, allTo_iff]
    intro i hi
    have := hb i hi
    unfold baseOk at this ⊢
    rwa [baseAt_take hi]
  · rw [hl, allTo_iff]
    intro i hi
    have := (allTo_iff _ _).1 h3 i (by omega)
    unfold depOk at this ⊢
    rwa [depP_take i hi]
  · rw [hl, allTo_iff]
    intro i hi
    have := (allTo_iff _ _).1 h4 i (by omega)
    unfold entOk at this ⊢
    rwa [btxtP_take hi (hb i hi), opsAt_take hi, objP_take hi]
theorem packL_take (h : packB ps = true) (hk : k ≤ ps.length) : packL (ps.take k) = (packL ps).take k := by
  have hl : (ps.take k).length = k := by rw [List.length_take]; omega
  rw [packL_yes (packB_take h hk), packL_yes h, hl]
  refine List.ext_getElem (by rw [packTo_len, List.length_take, packTo_len]; omega) fun i h1 h2 => ?_
  rw [packTo_len] at h1
  rw [packTo_get h1, objP_take h1, List.getElem_take, packTo_get (by omega)]
end

theorem rdL_take {w : World} {lo hi : Nat} : ∀ {es : List D} {vs : List Value} (j : Nat), D.rdL w lo hi es vs → D.rdL w lo hi (es.take j) (vs.take j)
  | [], vs, j, h => by unfold D.rdL at h; subst h; simp; unfold D.rdL; rfl
  | e :: es, vs, 0, h => by simp; unfold D.rdL; rfl
  | e :: es, vs, j + 1, h => by
    unfold D.rdL at h
    obtain ⟨v, r, rfl, h1, h2⟩ := h
    rw [List.take_succ_cons, List.take_succ_cons]
    unfold D.rdL
    exact ⟨v, _, rfl, h1, rdL_take j h2⟩
theorem flat_takeE {α : Type} (f : α → List D) (m : Nat) (hf : ∀ x, (f x).length = m) : ∀ (xs : List α) (k : Nat), (xs.take k).flatMap f = (xs.flatMap f).take (k * m)
  | [], k => by simp
  | x :: xs, 0 => by simp
  | x :: xs, k + 1 => by
    have e1 : (f x).take ((k + 1) * m) = f x := List.take_of_length_le (by rw [hf, Nat.add_mul]; omega)
    have e2 : (k + 1) * m - m = k * m := by rw [Nat.add_mul]; omega
    rw [List.take_succ_cons, List.flatMap_cons, List.flatMap_cons, flat_takeE f m hf xs k, List.take_append, hf, e1, e2]
/-- a slice's first k elements -/
theorem rd_take {α : Type} {f : α → List D} {w : World} {lo hi m n k c : Nat} {A : Option Addr} {xs : List α} (hf : ∀ x, (f x).length = m) (h : D.rd w lo hi (.arr m n (xs.flatMap f)) (.slice A n c)) (hk : k ≤ n) : D.rd w lo hi (.arr m k ((xs.take k).flatMap f)) (.slice A k c) := by
  unfold D.rd at h ⊢
  obtain ⟨A', c', vs, e, h2, h3, h4, h5, h6⟩ := h
  injection e with e1 e2 e3
  subst e1 e3
  refine ⟨A, c, vs.take (k * m), rfl, by omega, h3, ?_, ?_, by rw [flat_takeE f m hf]; exact rdL_take _ h6⟩
  · rw [flat_takeE f m hf, List.length_take, h4]
    exact Nat.min_eq_left (Nat.mul_le_mul_right _ hk)
  · intro hne
    have hvs : vs ≠ [] := fun e => hne (by rw [e]; simp)
    obtain ⟨b, o, h7, h8, h9, h10⟩ := h5 hvs
    refine ⟨b, o, h7, h8, h9, fun j u hu => h10 j u ?_⟩
    rw [List.getElem?_take] at hu
    split at hu
    · exact hu
    · cases hu
theorem rd_takePE {w : World} {lo hi n k c : Nat} {A : Option Addr} {ps : List PED} (h : D.rd w lo hi (dPackEntrys ps) (.slice A n c)) (hk : k ≤ n) : D.rd w lo hi (dPackEntrys (ps.take k)) (.slice A k c) := by
  have hn := h.len.1
  have h1 : D.rd w lo hi (.arr 4 n (ps.flatMap fPackEntry)) (.slice A n c) := by rw [hn]; rw [hn] at h; exact h
  have h2 := rd_take fPackEntry_len h1 hk
  unfold dPackEntrys
  rw [List.length_take, Nat.min_eq_left (by omega)]
  exact h2
theorem rd_takeO {w : World} {lo hi n k c : Nat} {A : Option Addr} {os : List ObjD} (h : D.rd w lo hi (dObjects os) (.slice A n c)) (hk : k ≤ n) : D.rd w lo hi (dObjects (os.take k)) (.slice A k c) := by
  have hn := h.len.1
  have h1 : D.rd w lo hi (.arr 3 n (os.flatMap fObject)) (.slice A n c) := by rw [hn]; rw [hn] at h; exact h
  have h2 := rd_take fObject_len h1 hk
  unfold dObjects
  rw [List.length_take, Nat.min_eq_left (by omega)]
  exact h2
theorem sz_takePE (ps : List PED) (k : Nat) : D.sz (dPackEntrys (ps.take k)) ≤ D.sz (dPackEntrys ps) := by
  unfold dPackEntrys
  rw [sz_arr, sz_arr, List.length_take]
  have h1 : ps.flatMap fPackEntry = (ps.take k).flatMap fPackEntry ++ (ps.drop k).flatMap fPackEntry := by rw [← List.flatMap_append, List.take_append_drop]
  rw [h1, szL_app]
  omega

end Go.Proofs.Ytegfdckejncbdaa
