/-
  What refs and updates are, in plain Lean: valid refs, valid updates, updates that fit, refs that are set, refs that differ. No program in sight.
  Plain laws on refs and updates: what a ref is behind updates, updates twice, undone, in another order, and the differences. No program in sight.
  What records and shards are, in plain Lean: the last record of a transaction, the state behind records, and what holds of valid records. No program in sight.
  Plain laws on the differences of refs: they lead from one to the other, and are the updates that were performed. No program in sight.
-/
import Derived.Test.YtgnhanbdfohjaaaK1
namespace Go.Proofs.Ytgnhanbdfohjaaa
set_option linter.unusedVariables false
set_option linter.unusedSimpArgs false
open Go.RowKit

structure Upd where
  ref : Int
  old : Int
  new_ : Int
  deriving DecidableEq

/-- an update's cells -/
def cu (u : Upd) : List Value := [.int .i64 u.ref, .int .i64 u.old, .int .i64 u.new_]
theorem cu_len (u : Upd) : (cu u).length = 3 := rfl

def rid (n : Int) : Bool := inR n (-1) 990
def ridsB (xs : List Int) : Bool := xs.all rid
def refsB (xs : List Int) : Bool := decide (xs.length = 4) && ridsB xs
/-- one update alone -/
def uokB (u : Upd) : Bool := inR u.ref 0 3 && rid u.old && rid u.new_ && !decide (u.old = u.new_)
/-- each update alone, and refs in strict order behind 'prev' -/
def updsGo : Option Int → List Upd → Bool
  | _, [] => true
  | p, u :: us => uokB u && (match p with | none => true | some q => decide (q < u.ref)) && updsGo (some u.ref) us
def updsB (us : List Upd) : Bool := updsGo none us && decide (0 < us.length)
def getR (xs : List Int) (r : Int) : Int := xs.getD r.toNat 0
def fitsR (xs : List Int) (us : List Upd) : Bool := us.all fun u => decide (getR xs u.ref = u.old)
def setR (xs : List Int) (us : List Upd) : List Int := us.foldl (fun r u => r.set u.ref.toNat u.new_) xs
/-- what RefsApply returns: refs, and whether they were turned -/
def applyL (xs : List Int) (us : List Upd) : List Int := if refsB xs = true ∧ updsB us = true then (if fitsR xs us = true then setR xs us else xs) else []
def applyB (xs : List Int) (us : List Upd) : Bool := refsB xs && updsB us && fitsR xs us
def differAt (a b : List Int) (r : Nat) : List Upd := if a.getD r 0 = b.getD r 0 then [] else [⟨r, a.getD r 0, b.getD r 0⟩]
def differL (a b : List Int) : List Upd := if refsB a = true ∧ refsB b = true then (List.range 4).flatMap (differAt a b) else []
def crossB (a b : List Upd) : Bool := updsB a && updsB b && a.any fun u => b.any fun v => decide (u.ref = v.ref)

end Go.Proofs.Ytgnhanbdfohjaaa

namespace Go.Proofs.Ytgnhanbdfohjaaa
set_option linter.unusedVariables false
set_option linter.unusedSimpArgs false
open Go.RowKit

theorem rid_iff (n : Int) : rid n = true ↔ -1 ≤ n ∧ n ≤ 990 := inR_iff _ _ _
theorem uokB_iff (u : Upd) : uokB u = true ↔ (0 ≤ u.ref ∧ u.ref ≤ 3) ∧ rid u.old = true ∧ rid u.new_ = true ∧ u.old ≠ u.new_ := by
  unfold uokB
  simp only [Bool.and_eq_true, inR_iff, Bool.not_eq_true', decide_eq_false_iff_not]
  constructor
  · rintro ⟨⟨⟨h1, h2⟩, h3⟩, h4⟩; exact ⟨h1, h2, h3, h4⟩
  · rintro ⟨h1, h2, h3, h4⟩; exact ⟨⟨⟨h1, h2⟩, h3⟩, h4⟩

/-- every update fits alone, and refs ascend from lo on -/
def Asc : Int → List Upd → Prop
  | _, [] => True
  | lo, u :: us => uokB u = true ∧ lo ≤ u.ref ∧ Asc (u.ref + 1) us
theorem Asc.of_go {us : List Upd} : ∀ {p : Option Int}, updsGo p us = true → Asc (match p with | none => 0 | some q => q + 1) us := by
  induction us with
  | nil => intro p _; trivial
  | cons u us ih =>
    intro p h
    unfold updsGo at h
    simp only [Bool.and_eq_true] at h
    obtain ⟨⟨h1, h2⟩, h3⟩ := h
    refine ⟨h1, ?_, ih h3⟩
    rcases p with _ | q
    · exact ((uokB_iff u).1 h1).1.1
    · simp only [decide_eq_true_eq] at h2; show q + 1 ≤ u.ref; omega
theorem Asc.to_go {us : List Upd} : ∀ {lo : Int}, Asc lo us → ∀ p : Option Int, (∀ q, p = some q → q < lo) → updsGo p us = true := by
  induction us with
  | nil => intro _ _ p _; rfl
  | cons u us ih =>
    intro lo h p hp
    obtain ⟨h1, h2, h3⟩ := h
    unfold updsGo
    simp only [Bool.and_eq_true]
    refine ⟨⟨h1, ?_⟩, ih h3 _ fun q hq => by injection hq with hq; omega⟩
    rcases p with _ | q
    · rfl
    · have := hp q rfl; simp only [decide_eq_true_eq]; omega
theorem updsB_asc {us : List Upd} (h : updsB us = true) : Asc 0 us ∧ us ≠ [] := by
  unfold updsB at h
  simp only [Bool.and_eq_true, decide_eq_true_eq] at h
  exact ⟨Asc.of_go h.1, by intro e; rw [e] at h; simp at h⟩
theorem asc_updsB {us : List Upd} (h : Asc 0 us) (hne : us ≠ []) : updsB us = true := by
  unfold updsB
  simp only [Bool.and_eq_true, decide_eq_true_eq]
  exact ⟨h.to_go none (fun q hq => by cases hq), by rcases us with _ | _ <;> simp at hne ⊢⟩
theorem Asc.mem {us : List Upd} : ∀ {lo : Int}, Asc lo us → ∀ u ∈ us, uokB u = true ∧ lo ≤ u.ref := by
  induction us with
  | nil => intro _ _ u hu; cases hu
  | cons v us ih =>
    intro lo h u hu
    obtain ⟨h1, h2, h3⟩ := h
    rcases List.mem_cons.1 hu with rfl | hu
    · exact ⟨h1, h2⟩
    · have := ih h3 u hu; exact ⟨this.1, by omega⟩

/-- the update of a ref, if there is one -/
def look (us : List Upd) (r : Int) : Option Upd := us.find? fun u => decide (u.ref = r)
theorem look_none {us : List Upd} {lo r : Int} (h : Asc lo us) (hr : r < lo) : look us r = none := by
  unfold look
  rw [List.find?_eq_none]
  intro u hu
  have := (h.mem u hu).2
  simp only [decide_eq_true_eq]; omega
theorem look_mem {us : List Upd} {lo : Int} (h : Asc lo us) {u : Upd} (hu : u ∈ us) : look us u.ref = some u := by
  induction us generalizing lo with
  | nil => cases hu
  | cons v us ih =>
    obtain ⟨h1, h2, h3⟩ := h
    rcases List.mem_cons.1 hu with rfl | hu
    · unfold look; rw [List.find?_cons_of_pos (by simp)]
    · have := (h3.mem u hu).2
      unfold look
      rw [List.find?_cons_of_neg (by simp; omega)]
      exact ih h3 hu
theorem look_some {us : List Upd} {r : Int} {u : Upd} (h : look us r = some u) : u ∈ us ∧ u.ref = r := by
  unfold look at h
  exact ⟨List.mem_of_find?_eq_some h, by simpa using List.find?_some h⟩

theorem setR_len (us : List Upd) : ∀ xs : List Int, (setR xs us).length = xs.length := by
  unfold setR
  induction us with
  | nil => intro xs; rfl
  | cons u us ih => intro xs; rw [List.foldl_cons, ih, List.length_set]
theorem getR_set {xs : List Int} {r s : Int} (x : Int) (hr : 0 ≤ r) (hs : 0 ≤ s) (hl : s.toNat < xs.length) : getR (xs.set s.toNat x) r = if s = r then x else getR xs r := by
  unfold getR
  rw [List.getD_eq_getElem?_getD, List.getElem?_set]
  by_cases h : s = r
  · subst h; rw [if_pos rfl, if_pos hl, if_pos rfl]; rfl
  · rw [if_neg (by omega), if_neg h, List.getD_eq_getElem?_getD]
theorem getR_setR {us : List Upd} : ∀ {lo : Int} {xs : List Int} {r : Int}, Asc lo us → 0 ≤ lo → xs.length = 4 → 0 ≤ r → getR (setR xs us) r = match look us r with | some u => u.new_ | none => getR xs r := by
  induction us with
  | nil => intro lo xs r _ _ _ _; rfl
  | cons v us ih =>
    intro lo xs r h h0 hl hr
    obtain ⟨h1, h2, h3⟩ := h
    have hv := ((uokB_iff v).1 h1).1
    have e : setR xs (v :: us) = setR (xs.set v.ref.toNat v.new_) us := rfl
    rw [e, ih h3 (by omega) (by rw [List.length_set]; exact hl) hr, getR_set _ hr hv.1 (by omega)]
    by_cases hrv : v.ref = r
    · rw [look_none h3 (by omega), if_pos hrv]
      unfold look; rw [List.find?_cons_of_pos (by simp [hrv])]
    · rw [if_neg hrv]
      have : look (v :: us) r = look us r := by unfold look; rw [List.find?_cons_of_neg (by simp [hrv])]
      rw [this]
theorem list4 {xs ys : List Int} (hx : xs.length = 4) (hy : ys.length = 4) (h : ∀ r : Int, 0 ≤ r → r ≤ 3 → getR xs r = getR ys r) : xs = ys := by
  refine List.ext_getElem (by omega) fun i h1 h2 => ?_
  have := h i (by omega) (by omega)
  unfold getR at this
  rw [Int.toNat_natCast, List.getD_eq_getElem?_getD, List.getD_eq_getElem?_getD, List.getElem?_eq_getElem h1, List.getElem?_eq_getElem h2] at this
  exact this
theorem fitsR_iff (xs : List Int) (us : List Upd) : fitsR xs us = true ↔ ∀ u ∈ us, getR xs u.ref = u.old := by
  unfold fitsR; rw [List.all_eq_true]; simp only [decide_eq_true_eq]

theorem refsB_iff (xs : List Int) : refsB xs = true ↔ xs.length = 4 ∧ ∀ x ∈ xs, rid x = true := by
  unfold refsB ridsB; rw [Bool.and_eq_true, decide_eq_true_eq, List.all_eq_true]
theorem getR_mem {xs : List Int} {r : Int} (hl : xs.length = 4) (h0 : 0 ≤ r) (h3 : r ≤ 3) : getR xs r ∈ xs := by
  unfold getR
  rw [List.getD_eq_getElem?_getD, List.getElem?_eq_getElem (by omega)]
  exact List.getElem_mem _
theorem mem_getR {xs : List Int} (hl : xs.length = 4) {x : Int} (hx : x ∈ xs) : ∃ r : Int, 0 ≤ r ∧ r ≤ 3 ∧ getR xs r = x := by
  obtain ⟨i, hi, rfl⟩ := List.getElem_of_mem hx
  refine ⟨i, by omega, by omega, ?_⟩
  unfold getR
  rw [Int.toNat_natCast, List.getD_eq_getElem?_getD, List.getElem?_eq_getElem hi]; rfl
theorem refsB_setR {xs : List Int} {us : List Upd} (hx : refsB xs = true) (hu : Asc 0 us) : refsB (setR xs us) = true := by
  obtain ⟨hl, hr⟩ := (refsB_iff xs).1 hx
  rw [refsB_iff]
  refine ⟨by rw [setR_len]; exact hl, fun x hx => ?_⟩
  obtain ⟨r, h0, h3, rfl⟩ := mem_getR (by rw [setR_len]; exact hl) hx
  rw [getR_setR hu (Int.le_refl 0) hl h0]
  rcases hlk : look us r with _ | u
  · exact hr _ (getR_mem hl h0 h3)
  · exact ((uokB_iff u).1 (hu.mem u (look_some hlk).1).1).2.2.1

theorem applyB_and {xs : List Int} {us : List Upd} (h : applyB xs us = true) : refsB xs = true ∧ updsB us = true ∧ fitsR xs us = true := by
  unfold applyB at h
  simp only [Bool.and_eq_true] at h
  exact ⟨h.1.1, h.1.2, h.2⟩
theorem applyL_yes {xs : List Int} {us : List Upd} (h : applyB xs us = true) : applyL xs us = setR xs us := by
  obtain ⟨h1, h2, h3⟩ := applyB_and h
  unfold applyL; rw [if_pos ⟨h1, h2⟩, if_pos h3]
theorem applyL_no {xs : List Int} {us : List Upd} (h1 : refsB xs = true) (h2 : updsB us = true) (h3 : fitsR xs us = false) : applyL xs us = xs ∧ applyB xs us = false := by
  unfold applyL applyB; rw [if_pos ⟨h1, h2⟩, h3]; simp

/-- updates are performed once -/
theorem apply_twice {xs : List Int} {us : List Upd} (h : applyB xs us = true) : applyB (applyL xs us) us = false ∧ applyL (applyL xs us) us = applyL xs us := by
  obtain ⟨h1, h2, h3⟩ := applyB_and h
  obtain ⟨ha, hne⟩ := updsB_asc h2
  have hl := ((refsB_iff xs).1 h1).1
  rw [applyL_yes h]
  have hr := refsB_setR h1 ha
  have hf : fitsR (setR xs us) us = false := by
    rcases us with _ | ⟨u, us⟩
    · exact absurd rfl hne
    · rw [← Bool.not_eq_true, fitsR_iff]
      intro hall
      have hu := hall u (List.mem_cons_self ..)
      have hok := (uokB_iff u).1 (ha.mem u (List.mem_cons_self ..)).1
      rw [getR_setR ha (Int.le_refl 0) hl hok.1.1, look_mem ha (List.mem_cons_self ..)] at hu
      exact hok.2.2.2 hu.symm
  exact ⟨(applyL_no hr h2 hf).2, (applyL_no hr h2 hf).1⟩

def inv (u : Upd) : Upd := ⟨u.ref, u.new_, u.old⟩
theorem Asc.inv {us : List Upd} : ∀ {lo : Int}, Asc lo us → Asc lo (us.map inv) := by
  induction us with
  | nil => intro _ _; trivial
  | cons u us ih =>
    intro lo h
    obtain ⟨h1, h2, h3⟩ := h
    obtain ⟨a, b, c, d⟩ := (uokB_iff u).1 h1
    exact ⟨(uokB_iff _).2 ⟨a, c, b, fun e => d e.symm⟩, h2, ih h3⟩
/-- updates can be undone -/
theorem apply_back {xs : List Int} {us : List Upd} (h : applyB xs us = true) : applyB (applyL xs us) (us.map inv) = true ∧ applyL (applyL xs us) (us.map inv) = xs := by
  obtain ⟨h1, h2, h3⟩ := applyB_and h
  obtain ⟨ha, hne⟩ := updsB_asc h2
  have hl := ((refsB_iff xs).1 h1).1
  rw [applyL_yes h]
  have hr := refsB_setR h1 ha
  have hu : updsB (us.map inv) = true := asc_updsB ha.inv (by simpa using hne)
  have hf : fitsR (setR xs us) (us.map inv) = true := by
    rw [fitsR_iff]
    intro v hv
    obtain ⟨u, hu, rfl⟩ := List.mem_map.1 hv
    have hok := (uokB_iff u).1 (ha.mem u hu).1
    show getR (setR xs us) u.ref = u.new_
    rw [getR_setR ha (Int.le_refl 0) hl hok.1.1, look_mem ha hu]
  have hB : applyB (setR xs us) (us.map inv) = true := by unfold applyB; rw [hr, hu, hf]; rfl
  refine ⟨hB, ?_⟩
  rw [applyL_yes hB]
  refine list4 (by rw [setR_len, setR_len]; exact hl) hl fun r h0 h3' => ?_
  rw [getR_setR ha.inv (Int.le_refl 0) (by rw [setR_len]; exact hl) h0]
  rcases hlk : look (us.map inv) r with _ | v
  · rw [getR_setR ha (Int.le_refl 0) hl h0]
    rcases hlk2 : look us r with _ | u
    · rfl
    · exfalso
      obtain ⟨hm, hrr⟩ := look_some hlk2
      have := look_mem ha.inv (List.mem_map.2 ⟨u, hm, rfl⟩)
      rw [show (inv u).ref = r from hrr, hlk] at this
      cases this
  · obtain ⟨hm, hrr⟩ := look_some hlk
    obtain ⟨u, hu, rfl⟩ := List.mem_map.1 hm
    have := (fitsR_iff xs us).1 h3 u hu
    rw [show u.ref = r from hrr] at this
    exact this.symm

theorem cross_no {a b : List Upd} (ha : updsB a = true) (hb : updsB b = true) (h : crossB a b = false) : ∀ u ∈ a, ∀ v ∈ b, u.ref ≠ v.ref := by
  unfold crossB at h
  rw [ha, hb] at h
  simp only [Bool.and_true, Bool.true_and] at h
  intro u hu v hv e
  rw [← Bool.not_eq_true] at h
  exact h (List.any_eq_true.2 ⟨u, hu, List.any_eq_true.2 ⟨v, hv, by simp [e]⟩⟩)
theorem look_apart {a b : List Upd} (h : ∀ u ∈ a, ∀ v ∈ b, u.ref ≠ v.ref) (r : Int) {u : Upd} (hu : look a r = some u) : look b r = none := by
  rcases hb : look b r with _ | v
  · rfl
  · have h1 := look_some hu
    have h2 := look_some hb
    exact absurd (h1.2.trans h2.2.symm) (h u h1.1 v h2.1)
theorem fits_apart {xs : List Int} {a b : List Upd} (hl : xs.length = 4) (ha : Asc 0 a) (hb : Asc 0 b) (h : ∀ u ∈ a, ∀ v ∈ b, u.ref ≠ v.ref) : fitsR (setR xs a) b = fitsR xs b := by
  rw [Bool.eq_iff_iff, fitsR_iff, fitsR_iff]
  have key : ∀ v ∈ b, getR (setR xs a) v.ref = getR xs v.ref := by
    intro v hv
    have hok := (uokB_iff v).1 (hb.mem v hv).1
    rw [getR_setR ha (Int.le_refl 0) hl hok.1.1]
    rcases hlk : look a v.ref with _ | u
    · rfl
    · exact absurd (look_some hlk).2 (h u (look_some hlk).1 v hv)
  constructor
  · intro hall v hv; rw [← key v hv]; exact hall v hv
  · intro hall v hv; rw [key v hv]; exact hall v hv
theorem set_comm {xs : List Int} {a b : List Upd} (hl : xs.length = 4) (ha : Asc 0 a) (hb : Asc 0 b) (h : ∀ u ∈ a, ∀ v ∈ b, u.ref ≠ v.ref) : setR (setR xs a) b = setR (setR xs b) a := by
  refine list4 (by rw [setR_len, setR_len]; exact hl) (by rw [setR_len, setR_len]; exact hl) fun r h0 _ => ?_
  rw [getR_setR hb (Int.le_refl 0) (by rw [setR_len]; exact hl) h0, getR_setR ha (Int.le_refl 0) hl h0, getR_setR ha (Int.le_refl 0) (by rw [setR_len]; exact hl) h0, getR_setR hb (Int.le_refl 0) hl h0]
  rcases hka : look a r with _ | u
  · rfl
  · rw [look_apart h r hka]
/-- updates that do not cross commute -/
theorem apply_order {xs : List Int} {a b : List Upd} (hx : refsB xs = true) (ha : updsB a = true) (hb : updsB b = true) (h : crossB a b = false) :
    applyB (applyL xs a) b = applyB xs b ∧ applyB (applyL xs b) a = applyB xs a ∧ applyL (applyL xs a) b = applyL (applyL xs b) a := by
  have hap := cross_no ha hb h
  have hap' : ∀ u ∈ b, ∀ v ∈ a, u.ref ≠ v.ref := fun u hu v hv e => hap v hv u hu e.symm
  have hA := (updsB_asc ha).1
  have hB := (updsB_asc hb).1
  have hl := ((refsB_iff xs).1 hx).1
  have fa := fits_apart hl hA hB hap
  have fb := fits_apart hl hB hA hap'
  have ra := refsB_setR hx hA
  have rb := refsB_setR hx hB
  have e1 : ∀ us, updsB us = true → fitsR xs us = true → applyL xs us = setR xs us := fun us h1 h2 => applyL_yes (by unfold applyB; rw [hx, h1, h2]; rfl)
  have e2 : ∀ us, updsB us = true → fitsR xs us = false → applyL xs us = xs := fun us h1 h2 => (applyL_no hx h1 h2).1
  rcases fA : fitsR xs a with _ | _ <;> rcases fB : fitsR xs b with _ | _
  · rw [e2 a ha fA, e2 b hb fB]; exact ⟨rfl, rfl, (e2 a ha fA).symm⟩
  · rw [e2 a ha fA, e1 b hb fB]
    have n1 := applyL_no rb ha (by rw [fb]; exact fA)
    refine ⟨rfl, ?_, by rw [n1.1]⟩
    rw [n1.2, (applyL_no hx ha fA).2]
  · rw [e1 a ha fA, e2 b hb fB]
    have n1 := applyL_no ra hb (by rw [fa]; exact fB)
    refine ⟨?_, rfl, by rw [n1.1, e1 a ha fA]⟩
    rw [n1.2, (applyL_no hx hb fB).2]
  · rw [e1 a ha fA, e1 b hb fB]
    have y1 : applyB (setR xs a) b = true := by unfold applyB; rw [ra, hb, fa, fB]; rfl
    have y2 : applyB (setR xs b) a = true := by unfold applyB; rw [rb, ha, fb, fA]; rfl
    have y3 : applyB xs b = true := by unfold applyB; rw [hx, hb, fB]; rfl
    have y4 : applyB xs a = true := by unfold applyB; rw [hx, ha, fA]; rfl
    refine ⟨by rw [y1, y3], by rw [y2, y4], ?_⟩
    rw [applyL_yes y1, applyL_yes y2]; exact set_comm hl hA hB hap

end Go.Proofs.Ytgnhanbdfohjaaa

namespace Go.Proofs.Ytgnhanbdfohjaaa
set_option linter.unusedVariables false
set_option linter.unusedSimpArgs false
open Go.RowKit

theorem snoc_ind {α : Type} {motive : List α → Prop} (l : List α) (nil : motive []) (snoc : ∀ (l : List α) (a : α), motive l → motive (l ++ [a])) : motive l := by
  have h : ∀ r : List α, motive r.reverse := by
    intro r
    induction r with
    | nil => exact nil
    | cons a r ih => rw [List.reverse_cons]; exact snoc _ _ ih
  have := h l.reverse
  rwa [List.reverse_reverse] at this

structure Rec where
  kind : Int
  txn : Int
  us : List Upd
  deriving DecidableEq

def txB (t : Int) : Bool := inR t 0 11
theorem txB_iff (t : Int) : txB t = true ↔ 0 ≤ t ∧ t ≤ 11 := inR_iff _ _ _
/-- the last record of a transaction -/
def lastRc (rs : List Rec) (t : Int) : Option Rec := rs.foldl (fun o r => if r.txn = t then some r else o) none
theorem lastRc_nil (t : Int) : lastRc [] t = none := rfl
theorem lastRc_snoc (rs : List Rec) (r : Rec) (t : Int) : lastRc (rs ++ [r]) t = if r.txn = t then some r else lastRc rs t := by
  unfold lastRc; rw [List.foldl_append]; rfl
theorem lastRc_mem {rs : List Rec} {t : Int} {r : Rec} (h : lastRc rs t = some r) : r ∈ rs ∧ r.txn = t := by
  induction rs using snoc_ind with
  | nil => cases h
  | snoc rs x ih =>
    rw [lastRc_snoc] at h
    by_cases hx : x.txn = t
    · rw [if_pos hx] at h; injection h with h; subst h; exact ⟨by simp, hx⟩
    · rw [if_neg hx] at h; have := ih h; exact ⟨by simp [this.1], this.2⟩
theorem lastRc_none {rs : List Rec} {t : Int} (h : lastRc rs t = none) : ∀ r ∈ rs, r.txn ≠ t := by
  induction rs using snoc_ind with
  | nil => intro r hr; cases hr
  | snoc rs x ih =>
    rw [lastRc_snoc] at h
    by_cases hx : x.txn = t
    · rw [if_pos hx] at h; cases h
    · rw [if_neg hx] at h
      intro r hr
      rcases List.mem_append.1 hr with hr | hr
      · exact ih h r hr
      · rw [List.mem_singleton] at hr; subst hr; exact hx
def kindO (o : Option Rec) : Int := match o with | some r => r.kind | none => 0
def askK (rs : List Rec) (t : Int) : Int := kindO (lastRc rs t)
/-- the updates of the first record that votes for a transaction -/
def prepU (rs : List Rec) (t : Int) : List Upd := match rs.find? (fun r => decide (r.txn = t) && decide (r.kind = 1)) with | some r => r.us | none => []

structure St where
  refs : List Int
  locks : List Int
def st0 : St := ⟨[-1, -1, -1, -1], [-1, -1, -1, -1]⟩
def lockFit (locks : List Int) (us : List Upd) : Bool := us.all fun u => decide (getR locks u.ref = -1)
def lockSet (locks : List Int) (t : Int) (us : List Upd) : List Int := us.foldl (fun l u => l.set u.ref.toNat t) locks
def freeL (locks : List Int) (t : Int) : List Int := locks.map fun n => if n = t then -1 else n
/-- whether a record may follow on others -/
def stepB (rs : List Rec) (s : St) (r : Rec) : Bool :=
  txB r.txn &&
  if r.kind = 1 then decide (askK rs r.txn = 0) && updsB r.us && fitsR s.refs r.us && lockFit s.locks r.us
  else if r.kind = 2 then decide (askK rs r.txn = 1) && decide (r.us = [])
  else if r.kind = 3 then (decide (askK rs r.txn = 0) || decide (askK rs r.txn = 1)) && decide (r.us = [])
  else false
/-- the state behind it -/
def stepS (rs : List Rec) (s : St) (r : Rec) : St :=
  if r.kind = 1 then ⟨s.refs, lockSet s.locks r.txn r.us⟩
  else if r.kind = 2 then ⟨setR s.refs (prepU rs r.txn), freeL s.locks r.txn⟩
  else ⟨s.refs, freeL s.locks r.txn⟩
def runS : List Rec → St → List Rec → St × Bool
  | _, s, [] => (s, true)
  | d, s, r :: l => if stepB d s r = true then runS (d ++ [r]) (stepS d s r) l else (s, false)
def recov (rs : List Rec) : St × Bool := runS [] st0 rs
def shardB (rs : List Rec) : Bool := (recov rs).2 && decide (rs.length ≤ 30)

/-- what ShardAsk answers -/
def askV (rs : List Rec) (t : Int) : Int := if shardB rs = true ∧ txB t = true then askK rs t else -1
theorem askV_no {rs : List Rec} {t : Int} (h : shardB rs = false ∨ txB t = false) : askV rs t = -1 := by
  unfold askV; rw [if_neg]; rintro ⟨h1, h2⟩; rcases h with h | h <;> simp_all
theorem askV_yes {rs : List Rec} {t : Int} (h1 : shardB rs = true) (h2 : txB t = true) : askV rs t = askK rs t := by unfold askV; rw [if_pos ⟨h1, h2⟩]

theorem runS_snoc (l : List Rec) (r : Rec) : ∀ (d : List Rec) (s : St), runS d s (l ++ [r]) =
    if (runS d s l).2 = true then (if stepB (d ++ l) (runS d s l).1 r = true then (stepS (d ++ l) (runS d s l).1 r, true) else ((runS d s l).1, false)) else runS d s l := by
  induction l with
  | nil => intro d s; simp [runS]
  | cons x l ih =>
    intro d s
    rw [List.cons_append]
    by_cases hx : stepB d s x = true
    · simp only [runS, if_pos hx]
      rw [ih, List.append_assoc, List.singleton_append]
    · simp only [runS, if_neg hx]
      simp
theorem recov_snoc (l : List Rec) (r : Rec) : recov (l ++ [r]) = if (recov l).2 = true then (if stepB l (recov l).1 r = true then (stepS l (recov l).1 r, true) else ((recov l).1, false)) else recov l := by
  have := runS_snoc l r [] st0
  rw [List.nil_append] at this
  exact this
/-- records that may follow on one another -/
inductive Hist : List Rec → St → Prop
  | nil : Hist [] st0
  | snoc {rs : List Rec} {s : St} {r : Rec} : Hist rs s → stepB rs s r = true → Hist (rs ++ [r]) (stepS rs s r)
theorem Hist.eq {rs : List Rec} {s : St} (h : Hist rs s) : recov rs = (s, true) := by
  induction h with
  | nil => rfl
  | snoc h1 h2 ih => rw [recov_snoc, ih]; simp [h2]
theorem hist_of {rs : List Rec} (h : (recov rs).2 = true) : Hist rs (recov rs).1 := by
  induction rs using snoc_ind with
  | nil => exact Hist.nil
  | snoc rs r ih =>
    rw [recov_snoc] at h ⊢
    by_cases h1 : (recov rs).2 = true
    · rw [if_pos h1] at h ⊢
      by_cases h2 : stepB rs (recov rs).1 r = true
      · rw [if_pos h2]; exact (ih h1).snoc h2
      · rw [if_neg h2] at h; cases h
    · rw [if_neg h1] at h; exact absurd h h1
theorem recov_take {rs : List Rec} (h : (recov rs).2 = true) (k : Nat) : (recov (rs.take k)).2 = true := by
  induction rs using snoc_ind with
  | nil => simpa using h
  | snoc rs r ih =>
    have h1 : (recov rs).2 = true := by
      rw [recov_snoc] at h
      by_cases h1 : (recov rs).2 = true
      · exact h1
      · rw [if_neg h1] at h; exact absurd h h1
    by_cases hk : k ≤ rs.length
    · rw [List.take_append_of_le_length hk]; exact ih h1
    · rw [List.take_of_length_le (by simp; omega)]; exact h

theorem stepB_iff (rs : List Rec) (s : St) (r : Rec) : stepB rs s r = true ↔ txB r.txn = true ∧
    ((r.kind = 1 ∧ askK rs r.txn = 0 ∧ updsB r.us = true ∧ fitsR s.refs r.us = true ∧ lockFit s.locks r.us = true) ∨
     (r.kind = 2 ∧ askK rs r.txn = 1 ∧ r.us = []) ∨ (r.kind = 3 ∧ (askK rs r.txn = 0 ∨ askK rs r.txn = 1) ∧ r.us = [])) := by
  unfold stepB
  rw [Bool.and_eq_true]
  refine and_congr_right fun _ => ?_
  by_cases h1 : r.kind = 1
  · rw [if_pos h1]; simp [h1, and_assoc]
  · rw [if_neg h1]
    by_cases h2 : r.kind = 2
    · rw [if_pos h2]; simp [h2]
    · rw [if_neg h2]
      by_cases h3 : r.kind = 3
      · rw [if_pos h3]; simp [h3]
      · rw [if_neg h3]; simp [h1, h2, h3]

theorem lockSet_len (us : List Upd) (t : Int) : ∀ xs : List Int, (lockSet xs t us).length = xs.length := by
  unfold lockSet
  induction us with
  | nil => intro xs; rfl
  | cons u us ih => intro xs; rw [List.foldl_cons, ih, List.length_set]
theorem getR_lockSet {us : List Upd} {t : Int} : ∀ {lo : Int} {xs : List Int} {r : Int}, Asc lo us → 0 ≤ lo → xs.length = 4 → 0 ≤ r → getR (lockSet xs t us) r = match look us r with | some _ => t | none => getR xs r := by
  induction us with
  | nil => intro lo xs r _ _ _ _; rfl
  | cons v us ih =>
    intro lo xs r h h0 hl hr
    obtain ⟨h1, h2, h3⟩ := h
    have hv := ((uokB_iff v).1 h1).1
    have e : lockSet xs t (v :: us) = lockSet (xs.set v.ref.toNat t) t us := rfl
    rw [e, ih h3 (by omega) (by rw [List.length_set]; exact hl) hr, getR_set _ hr hv.1 (by omega)]
    by_cases hrv : v.ref = r
    · rw [look_none h3 (by omega), if_pos hrv]
      unfold look; rw [List.find?_cons_of_pos (by simp [hrv])]
    · rw [if_neg hrv]
      have : look (v :: us) r = look us r := by unfold look; rw [List.find?_cons_of_neg (by simp [hrv])]
      rw [this]
theorem getR_freeL {xs : List Int} {t r : Int} (hl : xs.length = 4) (h0 : 0 ≤ r) (h3 : r ≤ 3) : getR (freeL xs t) r = if getR xs r = t then -1 else getR xs r := by
  unfold getR freeL
  rw [List.getD_eq_getElem?_getD, List.getD_eq_getElem?_getD, List.getElem?_map, List.getElem?_eq_getElem (by omega)]
  rfl
theorem freeL_len (xs : List Int) (t : Int) : (freeL xs t).length = xs.length := by unfold freeL; rw [List.length_map]

/-- what holds behind records that may follow on one another -/
structure Inv (rs : List Rec) (s : St) : Prop where
  refs : refsB s.refs = true
  llen : s.locks.length = 4
  rec_ : ∀ r ∈ rs, txB r.txn = true ∧ (r.kind = 1 ∧ updsB r.us = true ∨ (r.kind = 2 ∨ r.kind = 3) ∧ r.us = [])
  prep : ∀ t r, lastRc rs t = some r → r.kind = 1 → prepU rs t = r.us ∧ fitsR s.refs r.us = true
  lock : ∀ x : Int, 0 ≤ x → x ≤ 3 → (getR s.locks x = -1 ∨ txB (getR s.locks x) = true) ∧ ∀ t : Int, 0 ≤ t → (getR s.locks x = t ↔ ∃ r, lastRc rs t = some r ∧ r.kind = 1 ∧ (look r.us x).isSome = true)

theorem prepU_snoc_ne {rs : List Rec} {r : Rec} {t : Int} (h : r.txn ≠ t ∨ r.kind ≠ 1) : prepU (rs ++ [r]) t = prepU rs t := by
  unfold prepU
  rw [List.find?_append]
  have : List.find? (fun r => decide (r.txn = t) && decide (r.kind = 1)) [r] = none := by
    rw [List.find?_cons_of_neg]
    · rfl
    · rcases h with h | h <;> simp [h]
  rw [this, Option.or_none]
theorem prepU_snoc_new {rs : List Rec} {r : Rec} (h : lastRc rs r.txn = none) (h1 : r.kind = 1) : prepU (rs ++ [r]) r.txn = r.us := by
  unfold prepU
  rw [List.find?_append]
  have h0 : List.find? (fun x => decide (x.txn = r.txn) && decide (x.kind = 1)) rs = none := by
    rw [List.find?_eq_none]
    intro x hx
    have := lastRc_none h x hx
    simp [this]
  rw [h0, Option.none_or, List.find?_cons_of_pos (by simp [h1])]

theorem look_ref {us : List Upd} {r : Int} (h : (look us r).isSome = true) : ∃ u ∈ us, u.ref = r := by
  obtain ⟨u, hu⟩ := Option.isSome_iff_exists.1 h
  exact ⟨u, look_some hu⟩
theorem fits_other {xs : List Int} {us vs : List Upd} (hl : xs.length = 4) (hu : Asc 0 us) (hv : Asc 0 vs) (h : ∀ u ∈ us, ∀ v ∈ vs, u.ref ≠ v.ref) (hf : fitsR xs vs = true) : fitsR (setR xs us) vs = true := by
  rw [fits_apart hl hu hv h]; exact hf

/-- what locks are behind a decision -/
theorem inv_free {rs : List Rec} {s : St} {r : Rec} (I : Inv rs s) (htx : txB r.txn = true) {x : Int} (h0 : 0 ≤ x) (h3 : x ≤ 3) (hk : r.kind = 2 ∨ r.kind = 3) :
    (getR (freeL s.locks r.txn) x = -1 ∨ txB (getR (freeL s.locks r.txn) x) = true) ∧ ∀ t : Int, 0 ≤ t → (getR (freeL s.locks r.txn) x = t ↔ ∃ q, lastRc (rs ++ [r]) t = some q ∧ q.kind = 1 ∧ (look q.us x).isSome = true) := by
  have hL := I.lock x h0 h3
  have htx' := (txB_iff _).1 htx
  rw [getR_freeL I.llen h0 h3]
  by_cases e : getR s.locks x = r.txn
  · rw [if_pos e]
    refine ⟨.inl rfl, fun t ht => ⟨fun h => by omega, ?_⟩⟩
    rintro ⟨q, hq, hqk, hs⟩
    exfalso
    rw [lastRc_snoc] at hq
    by_cases et : r.txn = t
    · rw [if_pos et] at hq; injection hq with hq; subst hq; omega
    · rw [if_neg et] at hq
      have := (hL.2 t ht).2 ⟨q, hq, hqk, hs⟩
      exact et (e.symm.trans this)
  · rw [if_neg e]
    refine ⟨hL.1, fun t ht => ?_⟩
    rw [lastRc_snoc]
    by_cases et : r.txn = t
    · rw [if_pos et]
      constructor
      · intro h; exact absurd (h.trans et.symm) e
      · rintro ⟨q, hq, hqk, _⟩; injection hq with hq; subst hq; omega
    · rw [if_neg et]; exact hL.2 t ht

theorem Hist.inv {rs : List Rec} {s : St} (h : Hist rs s) : Inv rs s := by
  induction h with
  | nil =>
    refine ⟨by decide, rfl, (fun r hr => by cases hr), (fun t r h => by cases h), fun x h0 h3 => ⟨.inl ?_, fun t ht => ?_⟩⟩
    · have hx : x = 0 ∨ x = 1 ∨ x = 2 ∨ x = 3 := by omega
      rcases hx with rfl | rfl | rfl | rfl <;> rfl
    · have hx : x = 0 ∨ x = 1 ∨ x = 2 ∨ x = 3 := by omega
      have hg : getR st0.locks x = -1 := by rcases hx with rfl | rfl | rfl | rfl <;> rfl
      rw [hg]
      exact ⟨fun h => by omega, fun ⟨r, hr, _⟩ => by cases hr⟩
  | @snoc rs s r h1 h2 I =>
    obtain ⟨htx, hcase⟩ := (stepB_iff rs s r).1 h2
    have htx' := (txB_iff _).1 htx
    have hrl := ((refsB_iff s.refs).1 I.refs).1
    rcases hcase with ⟨hk, hask, hupd, hfit, hlf⟩ | ⟨hk, hask, hus⟩ | ⟨hk, hask, hus⟩
    · -- a vote
      have hst : stepS rs s r = ⟨s.refs, lockSet s.locks r.txn r.us⟩ := by unfold stepS; rw [if_pos hk]
      have hA := (updsB_asc hupd).1
      have hnone : lastRc rs r.txn = none := by
        rcases hl : lastRc rs r.txn with _ | q
        · rfl
        · exfalso
          have hq := lastRc_mem hl
          have := I.rec_ q hq.1
          unfold askK at hask; rw [hl] at hask
          have : q.kind = 0 := hask
          omega
      rw [hst]
      refine ⟨I.refs, by rw [lockSet_len]; exact I.llen, fun x hx => ?_, fun t q hq hqk => ?_, fun x h0 h3 => ?_⟩
      · rcases List.mem_append.1 hx with hx | hx
        · exact I.rec_ x hx
        · rw [List.mem_singleton] at hx; subst hx; exact ⟨htx, .inl ⟨hk, hupd⟩⟩
      · rw [lastRc_snoc] at hq
        by_cases ht : r.txn = t
        · rw [if_pos ht] at hq; injection hq with hq; subst hq; subst ht
          exact ⟨prepU_snoc_new hnone hk, hfit⟩
        · rw [if_neg ht] at hq
          rw [prepU_snoc_ne (.inl ht)]
          exact I.prep t q hq hqk
      · have hgl := getR_lockSet (t := r.txn) hA (Int.le_refl 0) I.llen h0
        have hL := I.lock x h0 h3
        rcases hlk : look r.us x with _ | u
        · rw [hlk] at hgl
          simp only at hgl
          refine ⟨by rw [hgl]; exact hL.1, fun t ht => ?_⟩
          rw [hgl, hL.2 t ht]
          by_cases e : r.txn = t
          · subst e
            rw [lastRc_snoc, if_pos rfl]
            constructor
            · rintro ⟨q, hq, _⟩; rw [hnone] at hq; cases hq
            · rintro ⟨q, hq, _, hs⟩; injection hq with hq; subst hq; rw [hlk] at hs; cases hs
          · rw [lastRc_snoc, if_neg e]
        · rw [hlk] at hgl
          simp only at hgl
          have hum := look_some hlk
          refine ⟨.inr (by rw [hgl]; exact htx), fun t ht => ?_⟩
          rw [hgl]
          by_cases e : r.txn = t
          · subst e
            rw [lastRc_snoc, if_pos rfl]
            exact ⟨fun _ => ⟨r, rfl, hk, by rw [hlk]; rfl⟩, fun _ => rfl⟩
          · rw [lastRc_snoc, if_neg e]
            refine ⟨fun h => absurd h e, fun hq => ?_⟩
            exfalso
            have h4 := (hL.2 t ht).2 hq
            have h5 := List.all_eq_true.1 hlf u hum.1
            rw [hum.2] at h5
            simp only [decide_eq_true_eq] at h5
            omega
    · -- a commit
      have hk1 : ¬ r.kind = 1 := by omega
      have hst : stepS rs s r = ⟨setR s.refs (prepU rs r.txn), freeL s.locks r.txn⟩ := by unfold stepS; rw [if_neg hk1, if_pos hk]
      obtain ⟨q, hq, hqk⟩ : ∃ q, lastRc rs r.txn = some q ∧ q.kind = 1 := by
        rcases hl : lastRc rs r.txn with _ | q
        · unfold askK at hask; rw [hl] at hask; exact absurd hask (by decide)
        · unfold askK at hask; rw [hl] at hask; exact ⟨q, rfl, hask⟩
      have hP := I.prep _ q hq hqk
      have hqu : updsB q.us = true := by
        rcases (I.rec_ q (lastRc_mem hq).1).2 with h | h
        · exact h.2
        · omega
      have hA := (updsB_asc hqu).1
      rw [hst, hP.1]
      refine ⟨refsB_setR I.refs hA, by rw [freeL_len]; exact I.llen, fun x hx => ?_, fun t p hp hpk => ?_, fun x h0 h3 => ?_⟩
      · rcases List.mem_append.1 hx with hx | hx
        · exact I.rec_ x hx
        · rw [List.mem_singleton] at hx; subst hx; exact ⟨htx, .inr ⟨.inl hk, hus⟩⟩
      · rw [lastRc_snoc] at hp
        by_cases ht : r.txn = t
        · rw [if_pos ht] at hp; injection hp with hp; subst hp; omega
        · rw [if_neg ht] at hp
          rw [prepU_snoc_ne (.inl ht)]
          have hPp := I.prep t p hp hpk
          have hpu : updsB p.us = true := by
            rcases (I.rec_ p (lastRc_mem hp).1).2 with h | h
            · exact h.2
            · omega
          have hAp := (updsB_asc hpu).1
          refine ⟨hPp.1, fits_other hrl hA hAp (fun u hu v hv e => ?_) hPp.2⟩
          have hur := ((uokB_iff u).1 (hA.mem u hu).1).1
          have htt : 0 ≤ t := by
            have := (txB_iff _).1 (I.rec_ p (lastRc_mem hp).1).1
            rw [(lastRc_mem hp).2] at this; exact this.1
          have h1 := ((I.lock u.ref hur.1 hur.2).2 r.txn htx'.1).2 ⟨q, hq, hqk, by rw [look_mem hA hu]; rfl⟩
          have h2 := ((I.lock u.ref hur.1 hur.2).2 t htt).2 ⟨p, hp, hpk, by rw [e, look_mem hAp hv]; rfl⟩
          exact ht (h1.symm.trans h2)
      · exact inv_free I htx h0 h3 (.inl hk)
    · -- an abort
      have hk1 : ¬ r.kind = 1 := by omega
      have hk2 : ¬ r.kind = 2 := by omega
      have hst : stepS rs s r = ⟨s.refs, freeL s.locks r.txn⟩ := by unfold stepS; rw [if_neg hk1, if_neg hk2]
      rw [hst]
      refine ⟨I.refs, by rw [freeL_len]; exact I.llen, fun x hx => ?_, fun t p hp hpk => ?_, fun x h0 h3 => ?_⟩
      · rcases List.mem_append.1 hx with hx | hx
        · exact I.rec_ x hx
        · rw [List.mem_singleton] at hx; subst hx; exact ⟨htx, .inr ⟨.inr hk, hus⟩⟩
      · rw [lastRc_snoc] at hp
        by_cases ht : r.txn = t
        · rw [if_pos ht] at hp; injection hp with hp; subst hp; omega
        · rw [if_neg ht] at hp
          rw [prepU_snoc_ne (.inl ht)]
          exact I.prep t p hp hpk
      · exact inv_free I htx h0 h3 (.inr hk)

end Go.Proofs.Ytgnhanbdfohjaaa

namespace Go.Proofs.Ytgnhanbdfohjaaa
set_option linter.unusedVariables false
set_option linter.unusedSimpArgs false
open Go.RowKit

def differFrom (f t : List Int) (a m : Nat) : List Upd := (List.range' a m).flatMap (differAt f t)
theorem differFrom_succ (f t : List Int) (a m : Nat) : differFrom f t a (m + 1) = differAt f t a ++ differFrom f t (a + 1) m := by
  unfold differFrom; rw [List.range'_succ, List.flatMap_cons]
theorem differL_from {f t : List Int} (hf : refsB f = true) (ht : refsB t = true) : differL f t = differFrom f t 0 4 := by
  unfold differL differFrom; rw [if_pos ⟨hf, ht⟩, List.range_eq_range']
theorem getR_nat (xs : List Int) (r : Nat) : getR xs (r : Int) = xs.getD r 0 := by unfold getR; rw [Int.toNat_natCast]

theorem differFrom_asc {f t : List Int} (hf : refsB f = true) (ht : refsB t = true) (m : Nat) : ∀ a : Nat, a + m ≤ 4 → Asc a (differFrom f t a m) := by
  induction m with
  | zero => intro a _; trivial
  | succ m ih =>
    intro a ha
    rw [differFrom_succ]
    unfold differAt
    have hmono : ∀ {lo hi : Int} {us : List Upd}, Asc hi us → lo ≤ hi → Asc lo us := by
      intro lo hi us h hle
      rcases us with _ | ⟨u, us⟩
      · trivial
      · exact ⟨h.1, Int.le_trans hle h.2.1, h.2.2⟩
    by_cases he : f.getD a 0 = t.getD a 0
    · rw [if_pos he]
      exact hmono (ih (a + 1) (by omega)) (by omega)
    · rw [if_neg he]
      have h1 := ((refsB_iff f).1 hf)
      have h2 := ((refsB_iff t).1 ht)
      refine ⟨(uokB_iff _).2 ⟨⟨by show (0 : Int) ≤ (a : Int); omega, by show (a : Int) ≤ 3; omega⟩, ?_, ?_, he⟩, Int.le_refl _, by simpa using ih (a + 1) (by omega)⟩
      · show rid (f.getD a 0) = true
        rw [← getR_nat]; exact h1.2 _ (getR_mem h1.1 (by omega) (by omega))
      · show rid (t.getD a 0) = true
        rw [← getR_nat]; exact h2.2 _ (getR_mem h2.1 (by omega) (by omega))
theorem differFrom_mem {f t : List Int} {a m : Nat} {u : Upd} (h : u ∈ differFrom f t a m) : ∃ r : Nat, a ≤ r ∧ r < a + m ∧ f.getD r 0 ≠ t.getD r 0 ∧ u = ⟨r, f.getD r 0, t.getD r 0⟩ := by
  unfold differFrom at h
  obtain ⟨r, hr, hu⟩ := List.mem_flatMap.1 h
  rw [List.mem_range'_1] at hr
  unfold differAt at hu
  by_cases he : f.getD r 0 = t.getD r 0
  · rw [if_pos he] at hu; cases hu
  · rw [if_neg he] at hu
    exact ⟨r, hr.1, hr.2, he, List.mem_singleton.1 hu⟩
theorem differFrom_has {f t : List Int} {a m r : Nat} (h1 : a ≤ r) (h2 : r < a + m) (he : f.getD r 0 ≠ t.getD r 0) : (⟨r, f.getD r 0, t.getD r 0⟩ : Upd) ∈ differFrom f t a m := by
  unfold differFrom
  refine List.mem_flatMap.2 ⟨r, List.mem_range'_1.2 ⟨h1, h2⟩, ?_⟩
  unfold differAt; rw [if_neg he]; exact List.mem_singleton.2 rfl

/-- differences lead from one to the other -/
theorem differ_apply {f t : List Int} (hf : refsB f = true) (ht : refsB t = true) :
    (differL f t = [] → f = t) ∧ (differL f t ≠ [] → updsB (differL f t) = true ∧ applyB f (differL f t) = true ∧ applyL f (differL f t) = t) := by
  have hfl := ((refsB_iff f).1 hf).1
  have htl := ((refsB_iff t).1 ht).1
  rw [differL_from hf ht]
  have hasc := differFrom_asc hf ht 4 0 (by omega)
  constructor
  · intro he
    refine list4 hfl htl fun r h0 h3 => ?_
    obtain ⟨q, rfl⟩ := Int.eq_ofNat_of_zero_le h0
    rw [getR_nat, getR_nat]
    rcases Decidable.em (f.getD q 0 = t.getD q 0) with h | h
    · exact h
    · have := differFrom_has (m := 4) (Nat.zero_le q) (by omega) h
      rw [he] at this; cases this
  · intro hne
    have hu := asc_updsB hasc hne
    have hfit : fitsR f (differFrom f t 0 4) = true := by
      rw [fitsR_iff]
      intro u hu
      obtain ⟨r, _, _, _, rfl⟩ := differFrom_mem hu
      exact getR_nat f r
    have hB : applyB f (differFrom f t 0 4) = true := by unfold applyB; rw [hf, hu, hfit]; rfl
    refine ⟨hu, hB, ?_⟩
    rw [applyL_yes hB]
    refine list4 (by rw [setR_len]; exact hfl) htl fun r h0 h3 => ?_
    rw [getR_setR hasc (Int.le_refl 0) hfl h0]
    obtain ⟨q, rfl⟩ := Int.eq_ofNat_of_zero_le h0
    rcases hlk : look (differFrom f t 0 4) (q : Int) with _ | u
    · show getR f (q : Int) = getR t (q : Int)
      rw [getR_nat, getR_nat]
      rcases Decidable.em (f.getD q 0 = t.getD q 0) with h | h
      · exact h
      · have := look_mem hasc (differFrom_has (m := 4) (Nat.zero_le q) (by omega) h)
        rw [show ((⟨q, f.getD q 0, t.getD q 0⟩ : Upd).ref) = (q : Int) from rfl, hlk] at this
        cases this
    · obtain ⟨hm, hr⟩ := look_some hlk
      obtain ⟨r, _, _, _, rfl⟩ := differFrom_mem hm
      have : r = q := by have : (r : Int) = (q : Int) := hr; omega
      subst this
      exact (getR_nat t r).symm

theorem differFrom_eq {f t : List Int} (m : Nat) : ∀ (a : Nat) (us : List Upd), Asc a us → (∀ u ∈ us, u.ref < a + m) →
    (∀ r : Nat, a ≤ r → r < a + m → match look us r with | some u => f.getD r 0 = u.old ∧ t.getD r 0 = u.new_ | none => f.getD r 0 = t.getD r 0) → differFrom f t a m = us := by
  induction m with
  | zero =>
    intro a us h hb _
    rcases us with _ | ⟨u, us⟩
    · rfl
    · have h1 := h.2.1
      have h2 := hb u (List.mem_cons_self ..)
      omega
  | succ m ih =>
    intro a us h hb hlk
    rw [differFrom_succ]
    have ha := hlk a (Nat.le_refl _) (by omega)
    have hmono : ∀ {lo hi : Int} {us : List Upd}, Asc lo us → (∀ u ∈ us, hi ≤ u.ref) → Asc hi us := by
      intro lo hi us h hall
      rcases us with _ | ⟨u, us⟩
      · trivial
      · exact ⟨h.1, hall u (List.mem_cons_self ..), h.2.2⟩
    rcases us with _ | ⟨u, us⟩
    · have hn : look [] (a : Int) = none := rfl
      rw [hn] at ha
      unfold differAt
      rw [if_pos ha, List.nil_append]
      exact ih (a + 1) [] trivial (by simp) fun r h1 h2 => hlk r (by omega) (by omega)
    · by_cases hu : u.ref = (a : Int)
      · have hlu : look (u :: us) (a : Int) = some u := by unfold look; rw [List.find?_cons_of_pos (by simp [hu])]
        rw [hlu] at ha
        have hok := (uokB_iff u).1 h.1
        have e : differAt f t a = [u] := by
          unfold differAt
          rw [if_neg (by rw [ha.1, ha.2]; exact hok.2.2.2), ha.1, ha.2]
          congr 1
          rcases u with ⟨r, o, n⟩
          simp only [Upd.mk.injEq, and_true]; exact hu.symm
        rw [e]
        have h3 : Asc ((a + 1 : Nat) : Int) us := by have := h.2.2; rw [hu] at this; exact_mod_cast this
        have : differFrom f t (a + 1) m = us := ih (a + 1) us h3 (fun v hv => by have := hb v (List.mem_cons_of_mem _ hv); omega) fun r h1 h2 => by
          have := hlk r (by omega) (by omega)
          have e2 : look (u :: us) (r : Int) = look us (r : Int) := by unfold look; rw [List.find?_cons_of_neg (by simp; omega)]
          rw [e2] at this; exact this
        rw [this]; rfl
      · have hlo : (a : Int) + 1 ≤ u.ref := by have := h.2.1; omega
        have hall : ∀ v ∈ u :: us, ((a + 1 : Nat) : Int) ≤ v.ref := by
          intro v hv
          rcases List.mem_cons.1 hv with rfl | hv
          · omega
          · have := (h.2.2.mem v hv).2; omega
        have h3 := hmono h hall
        have hn : look (u :: us) (a : Int) = none := look_none h3 (by omega)
        rw [hn] at ha
        unfold differAt
        rw [if_pos ha, List.nil_append]
        exact ih (a + 1) (u :: us) h3 (fun v hv => by have := hb v hv; omega) fun r h1 h2 => hlk r (by omega) (by omega)

/-- performed updates are the differences -/
theorem apply_differ {xs : List Int} {us : List Upd} (h : applyB xs us = true) : differL xs (applyL xs us) = us := by
  obtain ⟨h1, h2, h3⟩ := applyB_and h
  obtain ⟨ha, hne⟩ := updsB_asc h2
  have hl := ((refsB_iff xs).1 h1).1
  rw [applyL_yes h, differL_from h1 (refsB_setR h1 ha)]
  refine differFrom_eq 4 0 us ha (fun u hu => ?_) fun r _ hr => ?_
  · have := ((uokB_iff u).1 (ha.mem u hu).1).1.2
    omega
  · have hs := getR_setR (xs := xs) ha (Int.le_refl 0) hl (r := (r : Int)) (by omega)
    rw [getR_nat] at hs
    rcases hlk : look us (r : Int) with _ | u
    · rw [hlk] at hs
      rw [hs]; exact (getR_nat xs r).symm
    · rw [hlk] at hs
      obtain ⟨hm, hrr⟩ := look_some hlk
      have := (fitsR_iff xs us).1 h3 u hm
      rw [hrr, getR_nat] at this
      exact ⟨this, hs⟩

/-- what the law FnApplyRefs asks of each ref: its last update's new id, or its old id -/
def lastR (d : Int) (r : Int) (us : List Upd) : Int := us.foldl (fun x u => if u.ref = r then u.new_ else x) d
theorem lastR_look {us : List Upd} : ∀ {lo : Int} (d r : Int), Asc lo us → lastR d r us = match look us r with | some u => u.new_ | none => d := by
  unfold lastR
  induction us with
  | nil => intro lo d r _; rfl
  | cons u us ih =>
    intro lo d r h
    rw [List.foldl_cons, ih _ r h.2.2]
    by_cases hu : u.ref = r
    · rw [look_none h.2.2 (by omega), if_pos hu]
      unfold look; rw [List.find?_cons_of_pos (by simp [hu])]
    · rw [if_neg hu]
      have : look (u :: us) r = look us r := by unfold look; rw [List.find?_cons_of_neg (by simp [hu])]
      rw [this]
theorem apply_refs {xs : List Int} {us : List Upd} (h : applyB xs us = true) : refsB (applyL xs us) = true ∧ ∀ r : Int, 0 ≤ r → getR (applyL xs us) r = lastR (getR xs r) r us := by
  obtain ⟨h1, h2, h3⟩ := applyB_and h
  obtain ⟨ha, hne⟩ := updsB_asc h2
  have hl := ((refsB_iff xs).1 h1).1
  rw [applyL_yes h]
  exact ⟨refsB_setR h1 ha, fun r h0 => by rw [getR_setR ha (Int.le_refl 0) hl h0, lastR_look _ r ha]; try (cases look us r <;> rfl)⟩

end Go.Proofs.Ytgnhanbdfohjaaa
