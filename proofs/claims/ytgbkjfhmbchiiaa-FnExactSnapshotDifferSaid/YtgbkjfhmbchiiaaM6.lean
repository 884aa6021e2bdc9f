/-
  The walks of inRange, of the program, and of l6In, of the reference: each answers whether a number lies in a range. No condition.
  Plain laws on the differences of refs: they lead from one to the other, and are the updates that were performed. No program in sight.
-/
import Derived.Test.YtgbkjfhmbchiiaaM1
import Derived.Test.YtgbkjfhmbchiiaaM2
namespace Go.Proofs.Ytgbkjfhmbchiiaa
set_option linter.unusedVariables false
set_option linter.unusedSimpArgs false
open Go.RowKit

set_option maxHeartbeats 400000 in
theorem inRange_any (n a b : Int) (w : World) :
    Calls Try.prog 39 #[.int .i64 n, .int .i64 a, .int .i64 b] w fun e w' => e = .returned (.bool (inR n a b)) ∧ w = w' := by
  go_enter Try.func39, Try.ntmps39
  go_wp2
  all_goals go_ret
  · exact ⟨by simp [inR, *], rfl⟩
  · have h : ¬ a ≤ n := by omega
    exact ⟨by simp [inR, h], rfl⟩

set_option maxHeartbeats 400000 in
theorem l6In_any (n a b : Int) (w : World) :
    Calls Try.prog 41 #[.int .i64 n, .int .i64 a, .int .i64 b] w fun e w' => e = .returned (.bool (inR n a b)) ∧ w = w' := by
  go_enter Try.func41, Try.ntmps41
  go_wp2
  all_goals go_ret
  · exact ⟨by simp [inR, *], rfl⟩
  · have h : ¬ a ≤ n := by omega
    exact ⟨by simp [inR, h], rfl⟩

end Go.Proofs.Ytgbkjfhmbchiiaa

namespace Go.Proofs.Ytgbkjfhmbchiiaa
set_option linter.unusedVariables false
set_option linter.unusedSimpArgs false
open Go.RowKit

def differFrom (f t : List Int) (a m : Nat) : List Upd := (List.range' a m).flatMap (differAt f t)
theorem differFrom_succ (f t : List Int) (a m : Nat) : differFrom f t a (m + 1) = differAt f t a ++ differFrom f t (a + 1) m := by
  unfold differFrom; rw [List.range'_succ, List.flatMap_cons]
theorem differL_from {f t : List Int} (hf : refsB f = true) (ht : refsB t = true) : differL f t = differFrom f t 0 4 := by
  unfold differL differFrom; rw [if_pos ⟨hf, ht⟩, List.range_eq_range']
theorem getR_nat (xs : List Int) (r : Nat) : getR xs (r : Int) = xs.getD r 0 := by unfold getR; rw [Int.toNat_natCast]

theorem differFrom_asc {f t : List Int} (hf : refsB f = true) (ht : refsB t = true) (m : Nat) : ∀ a : Nat, a + m ≤ 4 → Asc a (differFrom f t a m) := by
  induction m with
  | zero => intro a _; trivial
  | succ m ih =>
    intro a ha
    rw [differFrom_succ]
    unfold differAt
    have hmono : ∀ {lo hi : Int} {us : List Upd}, Asc hi us → lo ≤ hi → Asc lo us := by
      intro lo hi us h hle
      rcases us with _ | ⟨u, us⟩
      · trivial
      · exact ⟨h.1, Int.le_trans hle h.2.1, h.2.2⟩
    by_cases he : f.getD a 0 = t.getD a 0
    · rw [if_pos he]
      exact hmono (ih (a + 1) (by omega)) (by omega)
    · rw [if_neg he]
      have h1 := ((refsB_iff f).1 hf)
      have h2 := ((refsB_iff t).1 ht)
      refine ⟨(uokB_iff _).2 ⟨⟨by show (0 : Int) ≤ (a : Int); omega, by show (a : Int) ≤ 3; omega⟩, ?_, ?_, he⟩, Int.le_refl _, by simpa using ih (a + 1) (by omega)⟩
      · show rid (f.getD a 0) = true
        rw [← getR_nat]; exact h1.2 _ (getR_mem h1.1 (by omega) (by omega))
      · show rid (t.getD a 0) = true
        rw [← getR_nat]; exact h2.2 _ (getR_mem h2.1 (by omega) (by omega))
theorem differFrom_mem {f t : List Int} {a m : Nat} {u : Upd} (h : u ∈ differFrom f t a m) : ∃ r : Nat, a ≤ r ∧ r < a + m ∧ f.getD r 0 ≠ t.getD r 0 ∧ u = ⟨r, f.getD r 0, t.getD r 0⟩ := by
  unfold differFrom at h
  obtain ⟨r, hr, hu⟩ := List.mem_flatMap.1 h
  rw [List.mem_range'_1] at hr
  unfold differAt at hu
  by_cases he : f.getD r 0 = t.getD r 0
  · rw [if_pos he] at hu; cases hu
  · rw [if_neg he] at hu
    exact ⟨r, hr.1, hr.2, he, List.mem_singleton.1 hu⟩
theorem differFrom_has {f t : List Int} {a m r : Nat} (h1 : a ≤ r) (h2 : r < a + m) (he : f.getD r 0 ≠ t.getD r 0) : (⟨r, f.getD r 0, t.getD r 0⟩ : Upd) ∈ differFrom f t a m := by
  unfold differFrom
  refine List.mem_flatMap.2 ⟨r, List.mem_range'_1.2 ⟨h1, h2⟩, ?_⟩
  unfold differAt; rw [if_neg he]; exact List.mem_singleton.2 rfl

/-- differences lead from one to the other -/
theorem differ_apply {f t : List Int} (hf : refsB f = true) (ht : refsB t = true) :
    (differL f t = [] → f = t) ∧ (differL f t ≠ [] → updsB (differL f t) = true ∧ applyB f (differL f t) = true ∧ applyL f (differL f t) = t) := by
  have hfl := ((refsB_iff f).1 hf).1
  have htl := ((refsB_iff t).1 ht).1
  rw [differL_from hf ht]
  have hasc := differFrom_asc hf ht 4 0 (by omega)
  constructor
  · intro he
    refine list4 hfl htl fun r h0 h3 => ?_
    obtain ⟨q, rfl⟩ := Int.eq_ofNat_of_zero_le h0
    rw [getR_nat, getR_nat]
    rcases Decidable.em (f.getD q 0 = t.getD q 0) with h | h
    · exact h
    · have := differFrom_has (m := 4) (Nat.zero_le q) (by omega) h
      rw [he] at this; cases this
  · intro hne
    have hu := asc_updsB hasc hne
    have hfit : fitsR f (differFrom f t 0 4) = true := by
      rw [fitsR_iff]
      intro u hu
      obtain ⟨r, _, _, _, rfl⟩ := differFrom_mem hu
      exact getR_nat f r
    have hB : applyB f (differFrom f t 0 4) = true := by unfold applyB; rw [hf, hu, hfit]; rfl
    refine ⟨hu, hB, ?_⟩
    rw [applyL_yes hB]
    refine list4 (by rw [setR_len]; exact hfl) htl fun r h0 h3 => ?_
    rw [getR_setR hasc (Int.le_refl 0) hfl h0]
    obtain ⟨q, rfl⟩ := Int.eq_ofNat_of_zero_le h0
    rcases hlk : look (differFrom f t 0 4) (q : Int) with _ | u
    · show getR f (q : Int) = getR t (q : Int)
      rw [getR_nat, getR_nat]
      rcases Decidable.em (f.getD q 0 = t.getD q 0) with h | h
      · exact h
      · have := look_mem hasc (differFrom_has (m := 4) (Nat.zero_le q) (by omega) h)
        rw [show ((⟨q, f.getD q 0, t.getD q 0⟩ : Upd).ref) = (q : Int) from rfl, hlk] at this
        cases this
    · obtain ⟨hm, hr⟩ := look_some hlk
      obtain ⟨r, _, _, _, rfl⟩ := differFrom_mem hm
      have : r = q := by have : (r : Int) = (q : Int) := hr; omega
      subst this
      exact (getR_nat t r).symm

theorem differFrom_eq {f t : List Int} (m : Nat) : ∀ (a : Nat) (us : List Upd), Asc a us → (∀ u ∈ us, u.ref < a + m) →
    (∀ r : Nat, a ≤ r → r < a + m → match look us r with | some u => f.getD r 0 = u.old ∧ t.getD r 0 = u.new_ | none => f.getD r 0 = t.getD r 0) → differFrom f t a m = us := by
  induction m with
  | zero =>
    intro a us h hb _
    rcases us with _ | ⟨u, us⟩
    · rfl
    · have h1 := h.2.1
      have h2 := hb u (List.mem_cons_self ..)
      omega
  | succ m ih =>
    intro a us h hb hlk
    rw [differFrom_succ]
    have ha := hlk a (Nat.le_refl _) (by omega)
    have hmono : ∀ {lo hi : Int} {us : List Upd}, Asc lo us → (∀ u ∈ us, hi ≤ u.ref) → Asc hi us := by
      intro lo hi us h hall
      rcases us with _ | ⟨u, us⟩
      · trivial
      · exact ⟨h.1, hall u (List.mem_cons_self ..), h.2.2⟩
    rcases us with _ | ⟨u, us⟩
    · have hn : look [] (a : Int) = none := rfl
      rw [hn] at ha
      unfold differAt
      rw [if_pos ha, List.nil_append]
      exact ih (a + 1) [] trivial (by simp) fun r h1 h2 => hlk r (by omega) (by omega)
    · by_cases hu : u.ref = (a : Int)
      · have hlu : look (u :: us) (a : Int) = some u := by unfold look; rw [List.find?_cons_of_pos (by simp [hu])]
        rw [hlu] at ha
        have hok := (uokB_iff u).1 h.1
        have e : differAt f t a = [u] := by
          unfold differAt
          rw [if_neg (by rw [ha.1, ha.2]; exact hok.2.2.2), ha.1, ha.2]
          congr 1
          rcases u with ⟨r, o, n⟩
          simp only [Upd.mk.injEq, and_true]; exact hu.symm
        rw [e]
        have h3 : Asc ((a + 1 : Nat) : Int) us := by have := h.2.2; rw [hu] at this; exact_mod_cast this
        have : differFrom f t (a + 1) m = us := ih (a + 1) us h3 (fun v hv => by have := hb v (List.mem_cons_of_mem _ hv); omega) fun r h1 h2 => by
          have := hlk r (by omega) (by omega)
          have e2 : look (u :: us) (r : Int) = look us (r : Int) := by unfold look; rw [List.find?_cons_of_neg (by simp; omega)]
          rw [e2] at this; exact this
        rw [this]; rfl
      · have hlo : (a : Int) + 1 ≤ u.ref := by have := h.2.1; omega
        have hall : ∀ v ∈ u :: us, ((a + 1 : Nat) : Int) ≤ v.ref := by
          intro v hv
          rcases List.mem_cons.1 hv with rfl | hv
          · omega
          · have := (h.2.2.mem v hv).2; omega
        have h3 := hmono h hall
        have hn : look (u :: us) (a : Int) = none := look_none h3 (by omega)
        rw [hn] at ha
        unfold differAt
        rw [if_pos ha, List.nil_append]
        exact ih (a + 1) (u :: us) h3 (fun v hv => by have := hb v hv; omega) fun r h1 h2 => hlk r (by omega) (by omega)

/-- performed updates are the differences -/
theorem apply_differ {xs : List Int} {us : List Upd} (h : applyB xs us = true) : differL xs (applyL xs us) = us := by
  obtain ⟨h1, h2, h3⟩ := applyB_and h
  obtain ⟨ha, hne⟩ := updsB_asc h2
  have hl := ((refsB_iff xs).1 h1).1
  rw [applyL_yes h, differL_from h1 (refsB_setR h1 ha)]
  refine differFrom_eq 4 0 us ha (fun u hu => ?_) fun r _ hr => ?_
  · have := ((uokB_iff u).1 (ha.mem u hu).1).1.2
    omega
  · have hs := getR_setR (xs := xs) ha (Int.le_refl 0) hl (r := (r : Int)) (by omega)
    rw [getR_nat] at hs
    rcases hlk : look us (r : Int) with _ | u
    · rw [hlk] at hs
      rw [hs]; exact (getR_nat xs r).symm
    · rw [hlk] at hs
      obtain ⟨hm, hrr⟩ := look_some hlk
      have := (fitsR_iff xs us).1 h3 u hm
      rw [hrr, getR_nat] at this
      exact ⟨this, hs⟩

/-- what the law FnApplyRefs asks of each ref: its last update's new id, or its old id -/
def lastR (d : Int) (r : Int) (us : List Upd) : Int := us.foldl (fun x u => if u.ref = r then u.new_ else x) d
theorem lastR_look {us : List Upd} : ∀ {lo : Int} (d r : Int), Asc lo us → lastR d r us = match look us r with | some u => u.new_ | none => d := by
  unfold lastR
  induction us with
  | nil => intro lo d r _; rfl
  | cons u us ih =>
    intro lo d r h
    rw [List.foldl_cons, ih _ r h.2.2]
    by_cases hu : u.ref = r
    · rw [look_none h.2.2 (by omega), if_pos hu]
      unfold look; rw [List.find?_cons_of_pos (by simp [hu])]
    · rw [if_neg hu]
      have : look (u :: us) r = look us r := by unfold look; rw [List.find?_cons_of_neg (by simp [hu])]
      rw [this]
theorem apply_refs {xs : List Int} {us : List Upd} (h : applyB xs us = true) : refsB (applyL xs us) = true ∧ ∀ r : Int, 0 ≤ r → getR (applyL xs us) r = lastR (getR xs r) r us := by
  obtain ⟨h1, h2, h3⟩ := applyB_and h
  obtain ⟨ha, hne⟩ := updsB_asc h2
  have hl := ((refsB_iff xs).1 h1).1
  rw [applyL_yes h]
  exact ⟨refsB_setR h1 ha, fun r h0 => by rw [getR_setR ha (Int.le_refl 0) hl h0, lastR_look _ r ha]; try (cases look us r <;> rfl)⟩

end Go.Proofs.Ytgbkjfhmbchiiaa
