/-
  Objects and packs in plain Lean: which objects are valid, their ids, and the objects of a pack. No program in sight.
-/
import Derived.Test.YtegfdckejncbdaaDeltaP
namespace Go.Proofs.Ytegfdckejncbdaa
set_option linter.unusedVariables false
set_option linter.unusedSimpArgs false
open Go.RowKit

/-- p holds of all numbers below n -/
def allTo (p : Nat → Bool) : Nat → Bool
  | 0 => true
  | n + 1 => allTo p n && p n
theorem allTo_iff (p : Nat → Bool) (n : Nat) : allTo p n = true ↔ ∀ k, k < n → p k = true := by
  induction n with
  | zero => simp [allTo]
  | succ n ih =>
    rw [allTo, Bool.and_eq_true, ih]
    constructor
    · rintro ⟨h1, h2⟩ k hk
      rcases Nat.lt_or_ge k n with h | h
      · exact h1 k h
      · have : k = n := by omega
        subst this; exact h2
    · intro h
      exact ⟨fun k hk => h k (by omega), h n (by omega)⟩
theorem allTo_no {p : Nat → Bool} {n k : Nat} (hk : k < n) (h : p k = false) : allTo p n = false := by
  rw [← Bool.not_eq_true, allTo_iff]
  intro h2
  rw [h2 k hk] at h; cases h
theorem allTo_succ {p : Nat → Bool} {k : Nat} (h : allTo p k = true) (h2 : p k = true) : allTo p (k + 1) = true := by rw [allTo, h, h2]; rfl

structure ObjD where
  kind : Int
  links : List Int
  text : ByteArray

/-- id k is in range and greater than the one before -/
def idAt (xs : List Int) (k : Nat) : Bool := inR (xs.getD k 0) 0 990 && (decide (k = 0) || decide (xs.getD (k - 1) 0 < xs.getD k 0))
def idsB (xs : List Int) : Bool := allTo (idAt xs) xs.length
/-- links are at most four ids in order -/
def linksB (xs : List Int) : Bool := idsB xs && decide (xs.length ≤ 4)
def kindB (kind : Int) (links : Nat) (text : Nat) : Bool :=
  if kind = 1 then decide (links = 0) else if kind = 2 then decide (text = 0) else if kind = 3 then decide (0 < links) else false
def objB (o : ObjD) : Bool := linksB o.links && decide (o.text.size ≤ 8) && kindB o.kind o.links.length o.text.size
def idLinks (n : Int) (xs : List Int) : Int := xs.foldl (fun n l => (n * 613 + l + 1) % 991) n
def idText (n : Int) (xs : List UInt8) : Int := xs.foldl (fun n b => (n * 257 + (b.toNat : Int) + 1) % 991) n
def idB (o : ObjD) : Int := idText (idLinks (100 * o.kind + o.links.length) o.links) o.text.data.toList

theorem objB_and {o : ObjD} (h : objB o = true) : idsB o.links = true ∧ o.links.length ≤ 4 ∧ o.text.size ≤ 8 ∧ (o.kind = 1 ∨ o.kind = 2 ∨ o.kind = 3) := by
  unfold objB linksB at h
  simp only [Bool.and_eq_true, decide_eq_true_eq] at h
  obtain ⟨⟨⟨h1, h2⟩, h3⟩, h4⟩ := h
  refine ⟨h1, h2, h3, ?_⟩
  unfold kindB at h4
  split at h4
  · left; assumption
  · split at h4
    · right; left; assumption
    · split at h4
      · right; right; assumption
      · cases h4
theorem idsB_mem {xs : List Int} (h : idsB xs = true) : ∀ x ∈ xs, 0 ≤ x ∧ x ≤ 990 := by
  intro x hx
  obtain ⟨k, hk, rfl⟩ := List.getElem_of_mem hx
  have := (allTo_iff _ _).1 h k hk
  unfold idAt at this
  rw [Bool.and_eq_true, inR_iff, List.getD_eq_getElem?_getD, List.getElem?_eq_getElem hk] at this
  simpa using this.1
theorem idLinks_bd : ∀ (xs : List Int) (n : Int), (∀ x ∈ xs, 0 ≤ x ∧ x ≤ 990) → 0 ≤ n → 0 ≤ idLinks n xs ∧ (n ≤ 990 → idLinks n xs ≤ 990)
  | [], n, _, h => ⟨h, fun h => h⟩
  | x :: xs, n, hx, h => by
    have h1 := hx x List.mem_cons_self
    have h2 := idLinks_bd xs ((n * 613 + x + 1) % 991) (fun y hy => hx y (List.mem_cons_of_mem _ hy)) (Int.emod_nonneg _ (by omega))
    exact ⟨h2.1, fun _ => h2.2 (by omega)⟩
theorem idText_bd : ∀ (xs : List UInt8) (n : Int), 0 ≤ n → n ≤ 990 → 0 ≤ idText n xs ∧ idText n xs ≤ 990
  | [], n, h, k => ⟨h, k⟩
  | x :: xs, n, h, k => idText_bd xs ((n * 257 + (x.toNat : Int) + 1) % 991) (Int.emod_nonneg _ (by omega)) (by omega)
theorem idLinks_take {xs : List Int} {k : Nat} (hk : k < xs.length) (n : Int) : idLinks n (xs.take (k + 1)) = (idLinks n (xs.take k) * 613 + xs[k] + 1) % 991 := by
  unfold idLinks
  rw [List.take_succ_eq_append_getElem hk, List.foldl_append]; rfl
theorem idText_take {xs : List UInt8} {k : Nat} (hk : k < xs.length) (n : Int) : idText n (xs.take (k + 1)) = (idText n (xs.take k) * 257 + (xs[k].toNat : Int) + 1) % 991 := by
  unfold idText
  rw [List.take_succ_eq_append_getElem hk, List.foldl_append]; rfl
theorem idB_bd {o : ObjD} (h : objB o = true) : 0 ≤ idB o ∧ idB o ≤ 990 := by
  obtain ⟨h1, h2, h3, h4⟩ := objB_and h
  have hm := idsB_mem h1
  have := idLinks_bd o.links (100 * o.kind + o.links.length) hm (by omega)
  have h5 := this.2 (by omega)
  exact idText_bd _ _ this.1 h5

structure PED where
  kind : Int
  links : List Int
  base : Int
  ops : List OpD
def baseAt (ps : List PED) (k : Nat) : Int := (ps.getD k ⟨0, [], -1, []⟩).base
def opsAt (ps : List PED) (k : Nat) : List OpD := (ps.getD k ⟨0, [], -1, []⟩).ops
/-- an entry's depth -/
def depP (ps : List PED) (i : Nat) : Nat := if h : 0 ≤ baseAt ps i ∧ (baseAt ps i).toNat < i then depP ps (baseAt ps i).toNat + 1 else 0
termination_by i
decreasing_by exact h.2
/-- an entry's text -/
def txtP (ps : List PED) (i : Nat) : ByteArray := strD (if h : 0 ≤ baseAt ps i ∧ (baseAt ps i).toNat < i then txtP ps (baseAt ps i).toNat else ByteArray.empty) (opsAt ps i)
termination_by i
decreasing_by exact h.2
/-- the text of an entry's base -/
def btxtP (ps : List PED) (i : Nat) : ByteArray := if 0 ≤ baseAt ps i then txtP ps (baseAt ps i).toNat else ByteArray.empty
def objP (ps : List PED) (i : Nat) : ObjD := ⟨(ps.getD i ⟨0, [], -1, []⟩).kind, (ps.getD i ⟨0, [], -1, []⟩).links, txtP ps i⟩
def baseOk (ps : List PED) (i : Nat) : Bool := inR (baseAt ps i) (-1) ((i : Int) - 1)
def depOk (ps : List PED) (i : Nat) : Bool := decide (depP ps i ≤ 2)
def entOk (ps : List PED) (i : Nat) : Bool := okD (btxtP ps i) (opsAt ps i) && objB (objP ps i)
def linkB (ps : List PED) : Bool := allTo (baseOk ps) ps.length
def packB (ps : List PED) : Bool := decide (ps.length ≤ 16) && linkB ps && allTo (depOk ps) ps.length && allTo (entOk ps) ps.length
def packTo (ps : List PED) (k : Nat) : List ObjD := (List.range k).map (objP ps)
def packL (ps : List PED) : List ObjD := if packB ps = true then packTo ps ps.length else []

theorem baseOk_iff {ps : List PED} {i : Nat} : baseOk ps i = true ↔ -1 ≤ baseAt ps i ∧ baseAt ps i ≤ (i : Int) - 1 := by unfold baseOk; rw [inR_iff]
theorem depP_no {ps : List PED} {i : Nat} (h : baseAt ps i < 0) : depP ps i = 0 := by rw [depP, dif_neg (by omega)]
theorem depP_yes {ps : List PED} {i : Nat} (h : 0 ≤ baseAt ps i) (hk : baseOk ps i = true) : depP ps i = depP ps (baseAt ps i).toNat + 1 := by
  rw [baseOk_iff] at hk
  rw [depP, dif_pos ⟨h, by omega⟩]
theorem txtP_eq {ps : List PED} {i : Nat} (hk : baseOk ps i = true) : txtP ps i = strD (btxtP ps i) (opsAt ps i) := by
  rw [baseOk_iff] at hk
  unfold btxtP
  rw [txtP]
  by_cases h : 0 ≤ baseAt ps i
  · rw [dif_pos ⟨h, by omega⟩, if_pos h]
  · rw [dif_neg (by omega), if_neg h]
theorem depP_le {ps : List PED} (i : Nat) : depP ps i ≤ i := by
  induction i using Nat.strongRecOn with
  | _ i ih =>
    rw [depP]
    split
    · have := ih _ (by rename_i h; exact h.2)
      omega
    · omega
theorem packB_and {ps : List PED} (h : packB ps = true) : ps.length ≤ 16 ∧ linkB ps = true ∧ allTo (depOk ps) ps.length = true ∧ allTo (entOk ps) ps.length = true := by
  unfold packB at h
  simp only [Bool.and_eq_true, decide_eq_true_eq] at h
  exact ⟨h.1.1.1, h.1.1.2, h.1.2, h.2⟩
theorem packB_big {ps : List PED} (h : 16 < ps.length) : packB ps = false := by
  unfold packB
  rw [show decide (ps.length ≤ 16) = false from decide_eq_false (by omega)]; rfl
theorem packB_link {ps : List PED} (h : linkB ps = false) : packB ps = false := by unfold packB; rw [h]; simp
theorem packB_dep {ps : List PED} {k : Nat} (hk : k < ps.length) (h : depOk ps k = false) : packB ps = false := by unfold packB; rw [allTo_no hk h]; simp
theorem packB_ent {ps : List PED} {k : Nat} (hk : k < ps.length) (h : entOk ps k = false) : packB ps = false := by unfold packB; rw [allTo_no hk h]; simp
theorem packB_yes {ps : List PED} (h1 : ps.length ≤ 16) (h2 : linkB ps = true) (h3 : allTo (depOk ps) ps.length = true) (h4 : allTo (entOk ps) ps.length = true) : packB ps = true := by unfold packB; simp [h1, h2, h3, h4]
theorem packL_no {ps : List PED} (h : packB ps = false) : packL ps = [] := by unfold packL; rw [h]; rfl
theorem packL_yes {ps : List PED} (h : packB ps = true) : packL ps = packTo ps ps.length := by unfold packL; rw [if_pos h]
theorem packTo_len (ps : List PED) (k : Nat) : (packTo ps k).length = k := by unfold packTo; simp
theorem packTo_succ (ps : List PED) (k : Nat) : packTo ps (k + 1) = packTo ps k ++ [objP ps k] := by unfold packTo; rw [List.range_succ, List.map_append]; rfl
theorem packTo_get {ps : List PED} {k i : Nat} (hi : i < k) : (packTo ps k)[i]'(by rw [packTo_len]; exact hi) = objP ps i := by unfold packTo; simp
theorem packL_obj {ps : List PED} : ∀ o ∈ packL ps, objB o = true := by
  intro o ho
  unfold packL at ho
  split at ho
  · rename_i h
    obtain ⟨-, -, -, h4⟩ := packB_and h
    unfold packTo at ho
    obtain ⟨i, hi, rfl⟩ := List.mem_map.1 ho
    have := (allTo_iff _ _).1 h4 i (List.mem_range.1 hi)
    unfold entOk at this
    rw [Bool.and_eq_true] at this
    exact this.2
  · cases ho
/-- a pack's sum -/
def sumP (n : Int) (os : List ObjD) : Int := os.foldl (fun n o => (n * 613 + idB o + 1) % 991) n
def packSum (ps : List PED) : Int := if packB ps = true then sumP ps.length (packL ps) else -1
theorem sumP_take {xs : List ObjD} {k : Nat} (hk : k < xs.length) (n : Int) : sumP n (xs.take (k + 1)) = (sumP n (xs.take k) * 613 + idB xs[k] + 1) % 991 := by
  unfold sumP
  rw [List.take_succ_eq_append_getElem hk, List.foldl_append]; rfl
theorem sumP_bd : ∀ (xs : List ObjD) (n : Int), (∀ x ∈ xs, objB x = true) → 0 ≤ n → n ≤ 990 → 0 ≤ sumP n xs ∧ sumP n xs ≤ 990
  | [], n, _, h, k => ⟨h, k⟩
  | x :: xs, n, hx, h, k => by
    have := idB_bd (hx x List.mem_cons_self)
    exact sumP_bd xs ((n * 613 + idB x + 1) % 991) (fun y hy => hx y (List.mem_cons_of_mem _ hy)) (Int.emod_nonneg _ (by omega)) (by omega)

end Go.Proofs.Ytegfdckejncbdaa
