/-
  Plain laws on refs and updates: what a ref is behind updates, updates twice, undone, in another order, and the differences. No program in sight.
-/
import Derived.Test.YtgbkjfhmbchiiaaRefsP
namespace Go.Proofs.Ytgbkjfhmbchiiaa
set_option linter.unusedVariables false
set_option linter.unusedSimpArgs false
open Go.RowKit

theorem rid_iff (n : Int) : rid n = true ↔ -1 ≤ n ∧ n ≤ 990 := inR_iff _ _ _
theorem uokB_iff (u : Upd) : uokB u = true ↔ (0 ≤ u.ref ∧ u.ref ≤ 3) ∧ rid u.old = true ∧ rid u.new_ = true ∧ u.old ≠ u.new_ := by
  unfold uokB
  simp only [Bool.and_eq_true, inR_iff, Bool.not_eq_true', decide_eq_false_iff_not]
  constructor
  · rintro ⟨⟨⟨h1, h2⟩, h3⟩, h4⟩; exact ⟨h1, h2, h3, h4⟩
  · rintro ⟨h1, h2, h3, h4⟩; exact ⟨⟨⟨h1, h2⟩, h3⟩, h4⟩

/-- every update fits alone, and refs ascend from lo on -/
def Asc : Int → List Upd → Prop
  | _, [] => True
  | lo, u :: us => uokB u = true ∧ lo ≤ u.ref ∧ Asc (u.ref + 1) us
theorem Asc.of_go {us : List Upd} : ∀ {p : Option Int}, updsGo p us = true → Asc (match p with | none => 0 | some q => q + 1) us := by
  induction us with
  | nil => intro p _; trivial
  | cons u us ih =>
    intro p h
    unfold updsGo at h
    simp only [Bool.and_eq_true] at h
    obtain ⟨⟨h1, h2⟩, h3⟩ := h
    refine ⟨h1, ?_, ih h3⟩
    rcases p with _ | q
    · exact ((uokB_iff u).1 h1).1.1
    · simp only [decide_eq_true_eq] at h2; show q + 1 ≤ u.ref; omega
theorem Asc.to_go {us : List Upd} : ∀ {lo : Int}, Asc lo us → ∀ p : Option Int, (∀ q, p = some q → q < lo) → updsGo p us = true := by
  induction us with
  | nil => intro _ _ p _; rfl
  | cons u us ih =>
    intro lo h p hp
    obtain ⟨h1, h2, h3⟩ := h
    unfold updsGo
    simp only [Bool.and_eq_true]
    refine ⟨⟨h1, ?_⟩, ih h3 _ fun q hq => by injection hq with hq; omega⟩
    rcases p with _ | q
    · rfl
    · have := hp q rfl; simp only [decide_eq_true_eq]; omega
theorem updsB_asc {us : List Upd} (h : updsB us = true) : Asc 0 us ∧ us ≠ [] := by
  unfold updsB at h
  simp only [Bool.and_eq_true, decide_eq_true_eq] at h
  exact ⟨Asc.of_go h.1, by intro e; rw [e] at h; simp at h⟩
theorem asc_updsB {us : List Upd} (h : Asc 0 us) (hne : us ≠ []) : updsB us = true := by
  unfold updsB
  simp only [Bool.and_eq_true, decide_eq_true_eq]
  exact ⟨h.to_go none (fun q hq => by cases hq), by rcases us with _ | _ <;> simp at hne ⊢⟩
theorem Asc.mem {us : List Upd} : ∀ {lo : Int}, Asc lo us → ∀ u ∈ us, uokB u = true ∧ lo ≤ u.ref := by
  induction us with
  | nil => intro _ _ u hu; cases hu
  | cons v us ih =>
    intro lo h u hu
    obtain ⟨h1, h2, h3⟩ := h
    rcases List.mem_cons.1 hu with rfl | hu
    · exact ⟨h1, h2⟩
    · have := ih h3 u hu; exact ⟨this.1, by omega⟩

/-- the update of a ref, if there is one -/
def look (us : List Upd) (r : Int) : Option Upd := us.find? fun u => decide (u.ref = r)
theorem look_none {us : List Upd} {lo r : Int} (h : Asc lo us) (hr : r < lo) : look us r = none := by
  unfold look
  rw [List.find?_eq_none]
  intro u hu
  have := (h.mem u hu).2
  simp only [decide_eq_true_eq]; omega
theorem look_mem {us : List Upd} {lo : Int} (h : Asc lo us) {u : Upd} (hu : u ∈ us) : look us u.ref = some u := by
  induction us generalizing lo with
  | nil => cases hu
  | cons v us ih =>
    obtain ⟨h1, h2, h3⟩ := h
    rcases List.mem_cons.1 hu with rfl | hu
    · unfold look; rw [List.find?_cons_of_pos (by simp)]
    · have := (h3.mem u hu).2
      unfold look
      rw [List.find?_cons_of_neg (by simp; omega)]
      exact ih h3 hu
theorem look_some {us : List Upd} {r : Int} {u : Upd} (h : look us r = some u) : u ∈ us ∧ u.ref = r := by
  unfold look at h
  exact ⟨List.mem_of_find?_eq_some h, by simpa using List.find?_some h⟩

theorem setR_len (us : List Upd) : ∀ xs : List Int, (setR xs us).length = xs.length := by
  unfold setR
  induction us with
  | nil => intro xs; rfl
  | cons u us ih => intro xs; rw [List.foldl_cons, ih, List.length_set]
theorem getR_set {xs : List Int} {r s : Int} (x : Int) (hr : 0 ≤ r) (hs : 0 ≤ s) (hl : s.toNat < xs.length) : getR (xs.set s.toNat x) r = if s = r then x else getR xs r := by
  unfold getR
  rw [List.getD_eq_getElem?_getD, List.getElem?_set]
  by_cases h : s = r
  · subst h; rw [if_pos rfl, if_pos hl, if_pos rfl]; rfl
  · rw [if_neg (by omega), if_neg h, List.getD_eq_getElem?_getD]
theorem getR_setR {us : List Upd} : ∀ {lo : Int} {xs : List Int} {r : Int}, Asc lo us → 0 ≤ lo → xs.length = 4 → 0 ≤ r → getR (setR xs us) r = match look us r with | some u => u.new_ | none => getR xs r := by
  induction us with
  | nil => intro lo xs r _ _ _ _; rfl
  | cons v us ih =>
    intro lo xs r h h0 hl hr
    obtain ⟨h1, h2, h3⟩ := h
    have hv := ((uokB_iff v).1 h1).1
    have e : setR xs (v :: us) = setR (xs.set v.ref.toNat v.new_) us := rfl
    rw [e, ih h3 (by omega) (by rw [List.length_set]; exact hl) hr, getR_set _ hr hv.1 (by omega)]
    by_cases hrv : v.ref = r
    · rw [look_none h3 (by omega), if_pos hrv]
      unfold look; rw [List.find?_cons_of_pos (by simp [hrv])]
    · rw [if_neg hrv]
      have : look (v :: us) r = look us r := by unfold look; rw [List.find?_cons_of_neg (by simp [hrv])]
      rw [this]
theorem list4 {xs ys : List Int} (hx : xs.length = 4) (hy : ys.length = 4) (h : ∀ r : Int, 0 ≤ r → r ≤ 3 → getR xs r = getR ys r) : xs = ys := by
  refine List.ext_getElem (by omega) fun i h1 h2 => ?_
  have := h i (by omega) (by omega)
  unfold getR at this
  rw [Int.toNat_natCast, List.getD_eq_getElem?_getD, List.getD_eq_getElem?_getD, List.getElem?_eq_getElem h1, List.getElem?_eq_getElem h2] at this
  exact this
theorem fitsR_iff (xs : List Int) (us : List Upd) : fitsR xs us = true ↔ ∀ u ∈ us, getR xs u.ref = u.old := by
  unfold fitsR; rw [List.all_eq_true]; simp only [decide_eq_true_eq]

theorem refsB_iff (xs : List Int) : refsB xs = true ↔ xs.length = 4 ∧ ∀ x ∈ xs, rid x = true := by
  unfold refsB ridsB; rw [Bool.and_eq_true, decide_eq_true_eq, List.all_eq_true]
theorem getR_mem {xs : List Int} {r : Int} (hl : xs.length = 4) (h0 : 0 ≤ r) (h3 : r ≤ 3) : getR xs r ∈ xs := by
  unfold getR
  rw [List.getD_eq_getElem?_getD, List.getElem?_eq_getElem (by omega)]
  exact List.getElem_mem _
theorem mem_getR {xs : List Int} (hl : xs.length = 4) {x : Int} (hx : x ∈ xs) : ∃ r : Int, 0 ≤ r ∧ r ≤ 3 ∧ getR xs r = x := by
  obtain ⟨i, hi, rfl⟩ := List.getElem_of_mem hx
  refine ⟨i, by omega, by omega, ?_⟩
  unfold getR
  rw [Int.toNat_natCast, List.getD_eq_getElem?_getD, List.getElem?_eq_getElem hi]; rfl
theorem refsB_setR {xs : List Int} {us : List Upd} (hx : refsB xs = true) (hu : Asc 0 us) : refsB (setR xs us) = true := by
  obtain ⟨hl, hr⟩ := (refsB_iff xs).1 hx
  rw [refsB_iff]
  refine ⟨by rw [setR_len]; exact hl, fun x hx => ?_⟩
  obtain ⟨r, h0, h3, rfl⟩ := mem_getR (by rw [setR_len]; exact hl) hx
  rw [getR_setR hu (Int.le_refl 0) hl h0]
  rcases hlk : look us r with _ | u
  · exact hr _ (getR_mem hl h0 h3)
  · exact ((uokB_iff u).1 (hu.mem u (look_some hlk).1).1).2.2.1

theorem applyB_and {xs : List Int} {us : List Upd} (h : applyB xs us = true) : refsB xs = true ∧ updsB us = true ∧ fitsR xs us = true := by
  unfold applyB at h
  simp only [Bool.and_eq_true] at h
  exact ⟨h.1.1, h.1.2, h.2⟩
theorem applyL_yes {xs : List Int} {us : List Upd} (h : applyB xs us = true) : applyL xs us = setR xs us := by
  obtain ⟨h1, h2, h3⟩ := applyB_and h
  unfold applyL; rw [if_pos ⟨h1, h2⟩, if_pos h3]
theorem applyL_no {xs : List Int} {us : List Upd} (h1 : refsB xs = true) (h2 : updsB us = true) (h3 : fitsR xs us = false) : applyL xs us = xs ∧ applyB xs us = false := by
  unfold applyL applyB; rw [if_pos ⟨h1, h2⟩, h3]; simp

/-- updates are performed once -/
theorem apply_twice {xs : List Int} {us : List Upd} (h : applyB xs us = true) : applyB (applyL xs us) us = false ∧ applyL (applyL xs us) us = applyL xs us := by
  obtain ⟨h1, h2, h3⟩ := applyB_and h
  obtain ⟨ha, hne⟩ := updsB_asc h2
  have hl := ((refsB_iff xs).1 h1).1
  rw [applyL_yes h]
  have hr := refsB_setR h1 ha
  have hf : fitsR (setR xs us) us = false := by
    rcases us with _ | ⟨u, us⟩
    · exact absurd rfl hne
    · rw [← Bool.not_eq_true, fitsR_iff]
      intro hall
      have hu := hall u (List.mem_cons_self ..)
      have hok := (uokB_iff u).1 (ha.mem u (List.mem_cons_self ..)).1
      rw [getR_setR ha (Int.le_refl 0) hl hok.1.1, look_mem ha (List.mem_cons_self ..)] at hu
      exact hok.2.2.2 hu.symm
  exact ⟨(applyL_no hr h2 hf).2, (applyL_no hr h2 hf).1⟩

def inv (u : Upd) : Upd := ⟨u.ref, u.new_, u.old⟩
theorem Asc.inv {us : List Upd} : ∀ {lo : Int}, Asc lo us → Asc lo (us.map inv) := by
  induction us with
  | nil => intro _ _; trivial
  | cons u us ih =>
    intro lo h
    obtain ⟨h1, h2, h3⟩ := h
    obtain ⟨a, b, c, d⟩ := (uokB_iff u).1 h1
    exact ⟨(uokB_iff _).2 ⟨a, c, b, fun e => d e.symm⟩, h2, ih h3⟩
/-- updates can be undone -/
theorem apply_back {xs : List Int} {us : List Upd} (h : applyB xs us = true) : applyB (applyL xs us) (us.map inv) = true ∧ applyL (applyL xs us) (us.map inv) = xs := by
  obtain ⟨h1, h2, h3⟩ := applyB_and h
  obtain ⟨ha, hne⟩ := updsB_asc h2
  have hl := ((refsB_iff xs).1 h1).1
  rw [applyL_yes h]
  have hr := refsB_setR h1 ha
  have hu : updsB (us.map inv) = true := asc_updsB ha.inv (by simpa using hne)
  have hf : fitsR (setR xs us) (us.map inv) = true := by
    rw [fitsR_iff]
    intro v hv
    obtain ⟨u, hu, rfl⟩ := List.mem_map.1 hv
    have hok := (uokB_iff u).1 (ha.mem u hu).1
    show getR (setR xs us) u.ref = u.new_
    rw [getR_setR ha (Int.le_refl 0) hl hok.1.1, look_mem ha hu]
  have hB : applyB (setR xs us) (us.map inv) = true := by unfold applyB; rw [hr, hu, hf]; rfl
  refine ⟨hB, ?_⟩
  rw [applyL_yes hB]
  refine list4 (by rw [setR_len, setR_len]; exact hl) hl fun r h0 h3' => ?_
  rw [getR_setR ha.inv (Int.le_refl 0) (by rw [setR_len]; exact hl) h0]
  rcases hlk : look (us.map inv) r with _ | v
  · rw [getR_setR ha (Int.le_refl 0) hl h0]
    rcases hlk2 : look us r with _ | u
    · rfl
    · exfalso
      obtain ⟨hm, hrr⟩ := look_some hlk2
      have := look_mem ha.inv (List.mem_map.2 ⟨u, hm, rfl⟩)
      rw [show (inv u).ref = r from hrr, hlk] at this
      cases this
  · obtain ⟨hm, hrr⟩ := look_some hlk
    obtain ⟨u, hu, rfl⟩ := List.mem_map.1 hm
    have := (fitsR_iff xs us).1 h3 u hu
    rw [show u.ref = r from hrr] at this
    exact this.symm

theorem cross_no {a b : List Upd} (ha : updsB a = true) (hb : updsB b = true) (h : crossB a b = false) : ∀ u ∈ a, ∀ v ∈ b, u.ref ≠ v.ref := by
  unfold crossB at h
  rw [ha, hb] at h
  simp only [Bool.and_true, Bool.true_and] at h
  intro u hu v hv e
  rw [← Bool.not_eq_true] at h
  exact h (List.any_eq_true.2 ⟨u, hu, List.any_eq_true.2 ⟨v, hv, by simp [e]⟩⟩)
theorem look_apart {a b : List Upd} (h : ∀ u ∈ a, ∀ v ∈ b, u.ref ≠ v.ref) (r : Int) {u : Upd} (hu : look a r = some u) : look b r = none := by
  rcases hb : look b r with _ | v
  · rfl
  · have h1 := look_some hu
    have h2 := look_some hb
    exact absurd (h1.2.trans h2.2.symm) (h u h1.1 v h2.1)
theorem fits_apart {xs : List Int} {a b : List Upd} (hl : xs.length = 4) (ha : Asc 0 a) (hb : Asc 0 b) (h : ∀ u ∈ a, ∀ v ∈ b, u.ref ≠ v.ref) : fitsR (setR xs a) b = fitsR xs b := by
  rw [Bool.eq_iff_iff, fitsR_iff, fitsR_iff]
  have key : ∀ v ∈ b, getR (setR xs a) v.ref = getR xs v.ref := by
    intro v hv
    have hok := (uokB_iff v).1 (hb.mem v hv).1
    rw [getR_setR ha (Int.le_refl 0) hl hok.1.1]
    rcases hlk : look a v.ref with _ | u
    · rfl
    · exact absurd (look_some hlk).2 (h u (look_some hlk).1 v hv)
  constructor
  · intro hall v hv; rw [← key v hv]; exact hall v hv
  · intro hall v hv; rw [key v hv]; exact hall v hv
theorem set_comm {xs : List Int} {a b : List Upd} (hl : xs.length = 4) (ha : Asc 0 a) (hb : Asc 0 b) (h : ∀ u ∈ a, ∀ v ∈ b, u.ref ≠ v.ref) : setR (setR xs a) b = setR (setR xs b) a := by
  refine list4 (by rw [setR_len, setR_len]; exact hl) (by rw [setR_len, setR_len]; exact hl) fun r h0 _ => ?_
  rw [getR_setR hb (Int.le_refl 0) (by rw [setR_len]; exact hl) h0, getR_setR ha (Int.le_refl 0) hl h0, getR_setR ha (Int.le_refl 0) (by rw [setR_len]; exact hl) h0, getR_setR hb (Int.le_refl 0) hl h0]
  rcases hka : look a r with _ | u
  · rfl
  · rw [look_apart h r hka]
/-- updates that do not cross commute -/
theorem apply_order {xs : List Int} {a b : List Upd} (hx : refsB xs = true) (ha : updsB a = true) (hb : updsB b = true) (h : crossB a b = false) :
    applyB (applyL xs a) b = applyB xs b ∧ applyB (applyL xs b) a = applyB xs a ∧ applyL (applyL xs a) b = applyL (applyL xs b) a := by
  have hap := cross_no ha hb h
  have hap' : ∀ u ∈ b, ∀ v ∈ a, u.ref ≠ v.ref := fun u hu v hv e => hap v hv u hu e.symm
  have hA := (updsB_asc ha).1
  have hB := (updsB_asc hb).1
  have hl := ((refsB_iff xs).1 hx).1
  have fa := fits_apart hl hA hB hap
  have fb := fits_apart hl hB hA hap'
  have ra := refsB_setR hx hA
  have rb := refsB_setR hx hB
  have e1 : ∀ us, updsB us = true → fitsR xs us = true → applyL xs us = setR xs us := fun us h1 h2 => applyL_yes (by unfold applyB; rw [hx, h1, h2]; rfl)
  have e2 : ∀ us, updsB us = true → fitsR xs us = false → applyL xs us = xs := fun us h1 h2 => (applyL_no hx h1 h2).1
  rcases fA : fitsR xs a with _ | _ <;> rcases fB : fitsR xs b with _ | _
  · rw [e2 a ha fA, e2 b hb fB]; exact ⟨rfl, rfl, (e2 a ha fA).symm⟩
  · rw [e2 a ha fA, e1 b hb fB]
    have n1 := applyL_no rb ha (by rw [fb]; exact fA)
    refine ⟨rfl, ?_, by rw [n1.1]⟩
    rw [n1.2, (applyL_no hx ha fA).2]
  · rw [e1 a ha fA, e2 b hb fB]
    have n1 := applyL_no ra hb (by rw [fa]; exact fB)
    refine ⟨?_, rfl, by rw [n1.1, e1 a ha fA]⟩
    rw [n1.2, (applyL_no hx hb fB).2]
  · rw [e1 a ha fA, e1 b hb fB]
    have y1 : applyB (setR xs a) b = true := by unfold applyB; rw [ra, hb, fa, fB]; rfl
    have y2 : applyB (setR xs b) a = true := by unfold applyB; rw [rb, ha, fb, fA]; rfl
    have y3 : applyB xs b = true := by unfold applyB; rw [hx, hb, fB]; rfl
    have y4 : applyB xs a = true := by unfold applyB; rw [hx, ha, fA]; rfl
    refine ⟨by rw [y1, y3], by rw [y2, y4], ?_⟩
    rw [applyL_yes y1, applyL_yes y2]; exact set_comm hl hA hB hap

end Go.Proofs.Ytgbkjfhmbchiiaa
