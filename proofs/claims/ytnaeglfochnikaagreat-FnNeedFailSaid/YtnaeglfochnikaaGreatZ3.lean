/-
  What is reached from ids over links, in plain Lean: a set that is closed and least; two ways to compute it. No program in sight.
  How the arguments of a law are opened: a slice of integers that came in is nil or leads to a row of cells. No condition.
-/
import Derived.Test.YtnaeglfochnikaaGreatZ2
import Derived.Test.YtnaeglfochnikaaGreatZ1
import Derived.ProofKit
import Derived.OpenShut
import Derived.ShutString
import Derived.ChangeOld
import Derived.Below
namespace Go.Proofs.YtnaeglfochnikaaGreat
set_option linter.unusedVariables false
set_option linter.unusedSimpArgs false
open Go.RowKit

/-- S is what is reached from the ids: it has them, it is closed under links, and it is least -/
def IsReach (M : Int → Option ObjD) (frm S : List Int) : Prop :=
  (∀ n ∈ frm, n ∈ S) ∧ (∀ n ∈ S, ∀ o, M n = some o → ∀ l ∈ o.links, l ∈ S) ∧
  ∀ P : Int → Prop, (∀ n ∈ frm, P n) → (∀ n o, P n → M n = some o → ∀ l ∈ o.links, P l) → ∀ n ∈ S, P n
theorem IsReach.mem {M : Int → Option ObjD} {frm S T : List Int} (h : IsReach M frm S) (k : IsReach M frm T) (n : Int) : n ∈ S ↔ n ∈ T :=
  ⟨fun hn => h.2.2 (· ∈ T) k.1 (fun m o hm ho l hl => k.2.1 m hm o ho l hl) n hn, fun hn => k.2.2 (· ∈ S) h.1 (fun m o hm ho l hl => h.2.1 m hm o ho l hl) n hn⟩

/-- the ids below 991 that a list has, in order, each once -/
def srtR (xs : List Int) : List Int := ((List.range 991).map fun (i : Nat) => (i : Int)).filter fun i => decide (i ∈ xs)
theorem srtR_mem (xs : List Int) (n : Int) : n ∈ srtR xs ↔ (0 ≤ n ∧ n ≤ 990) ∧ n ∈ xs := by
  unfold srtR
  simp only [List.mem_filter, List.mem_map, List.mem_range, decide_eq_true_eq]
  constructor
  · rintro ⟨⟨i, hi, rfl⟩, h⟩; exact ⟨⟨by omega, by omega⟩, h⟩
  · rintro ⟨⟨h1, h2⟩, h⟩; exact ⟨⟨n.toNat, by omega, by omega⟩, h⟩
theorem srtR_asc (xs : List Int) : (srtR xs).Pairwise (· < ·) := by
  unfold srtR
  refine List.Pairwise.filter _ ?_
  rw [List.pairwise_map]
  exact List.Pairwise.imp (fun h => by omega) List.pairwise_lt_range
theorem asc_extI {a b : List Int} (ha : a.Pairwise (· < ·)) (hb : b.Pairwise (· < ·)) (h : ∀ n, n ∈ a ↔ n ∈ b) : a = b := by
  induction a generalizing b with
  | nil =>
    cases b with
    | nil => rfl
    | cons y b => exact absurd ((h y).2 List.mem_cons_self) (by simp)
  | cons x a ih =>
    cases b with
    | nil => exact absurd ((h x).1 List.mem_cons_self) (by simp)
    | cons y b =>
      obtain ⟨ha1, ha2⟩ := List.pairwise_cons.1 ha
      obtain ⟨hb1, hb2⟩ := List.pairwise_cons.1 hb
      have hxy : x = y := by
        rcases List.mem_cons.1 ((h x).1 List.mem_cons_self) with e | h1
        · exact e
        · rcases List.mem_cons.1 ((h y).2 List.mem_cons_self) with e | h2
          · exact e.symm
          · have := hb1 x h1; have := ha1 y h2; omega
      subst hxy
      rw [ih ha2 hb2 fun n => ?_]
      constructor
      · intro hn
        rcases List.mem_cons.1 ((h n).1 (List.mem_cons_of_mem _ hn)) with rfl | h1
        · have := ha1 n hn; omega
        · exact h1
      · intro hn
        rcases List.mem_cons.1 ((h n).2 (List.mem_cons_of_mem _ hn)) with rfl | h1
        · have := hb1 n hn; omega
        · exact h1
theorem srtR_congr {xs ys : List Int} (h : ∀ n, n ∈ xs ↔ n ∈ ys) : srtR xs = srtR ys :=
  asc_extI (srtR_asc _) (srtR_asc _) fun n => by rw [srtR_mem, srtR_mem, h]

open Classical in
/-- what is reached, in order (nothing, where no list holds it) -/
noncomputable def reaL (M : Int → Option ObjD) (frm : List Int) : List Int := if h : ∃ S, IsReach M frm S then srtR h.choose else []
theorem reaL_of {M : Int → Option ObjD} {frm S : List Int} (h : IsReach M frm S) : reaL M frm = srtR S := by
  have he : ∃ S, IsReach M frm S := ⟨S, h⟩
  unfold reaL
  rw [dif_pos he]
  exact srtR_congr fun n => he.choose_spec.mem h n
theorem reaL_asc (M : Int → Option ObjD) (frm : List Int) : (reaL M frm).Pairwise (· < ·) := by
  unfold reaL
  split
  · exact srtR_asc _
  · exact List.Pairwise.nil

/-- links that are not there yet are put behind -/
def addTo (out ls : List Int) (j : Nat) : List Int := (ls.take j).foldl (fun o l => if l ∈ o then o else o ++ [l]) out
theorem addTo_zero (out ls : List Int) : addTo out ls 0 = out := rfl
theorem addTo_succ {out ls : List Int} {j : Nat} (h : j < ls.length) : addTo out ls (j + 1) = if ls[j] ∈ addTo out ls j then addTo out ls j else addTo out ls j ++ [ls[j]] := by
  unfold addTo
  rw [List.take_succ_eq_append_getElem h, List.foldl_append]; rfl
/-- what a worklist holds while it is worked off: i of its ids are done -/
def WorkI (M : Int → Option ObjD) (frm out : List Int) (i : Nat) : Prop :=
  out.Nodup ∧ (∀ n ∈ out, 0 ≤ n ∧ n ≤ 990) ∧ (∀ n ∈ frm, n ∈ out) ∧
  (∀ P : Int → Prop, (∀ n ∈ frm, P n) → (∀ n o, P n → M n = some o → ∀ l ∈ o.links, P l) → ∀ n ∈ out, P n) ∧
  ∀ j (h : j < out.length), j < i → ∀ o, M out[j] = some o → ∀ l ∈ o.links, l ∈ out
theorem nodup_lt : ∀ (n : Nat) (l : List Nat), l.Nodup → (∀ x ∈ l, x < n) → l.length ≤ n
  | 0, l, _, h => by
    cases l with
    | nil => exact Nat.le_refl _
    | cons x l => exact absurd (h x List.mem_cons_self) (Nat.not_lt_zero _)
  | n + 1, l, hd, h => by
    by_cases hm : n ∈ l
    · have h1 := nodup_lt n (l.erase n) (hd.erase n) (fun x hx => by
        have h2 := (hd.mem_erase_iff).1 hx
        have := h x h2.2; omega)
      have := List.length_erase_of_mem hm
      have := List.length_pos_of_mem hm
      omega
    · have := nodup_lt n l hd (fun x hx => by
        have := h x hx
        rcases Nat.lt_or_ge x n with h1 | h1
        · exact h1
        · have e : x = n := by omega
          subst e; exact absurd hx hm)
      omega
theorem nodup_len {out : List Int} (h : out.Nodup) (hb : ∀ n ∈ out, 0 ≤ n ∧ n ≤ 990) : out.length ≤ 991 := by
  have h1 : (out.map Int.toNat).Nodup := by
    rw [List.nodup_iff_pairwise_ne, List.pairwise_map]
    exact List.Pairwise.imp_of_mem (fun {a b} ha hb' hne e => hne (by have := hb a ha; have := hb b hb'; omega)) (List.nodup_iff_pairwise_ne.1 h)
  have h2 := nodup_lt 991 _ h1 (fun x hx => by
    obtain ⟨n, hn, rfl⟩ := List.mem_map.1 hx
    have := hb n hn
    omega)
  simpa using h2
theorem WorkI.len {M : Int → Option ObjD} {frm out : List Int} {i : Nat} (h : WorkI M frm out i) : out.length ≤ 991 := nodup_len h.1 h.2.1
theorem WorkI.start {M : Int → Option ObjD} {frm : List Int} (hn : frm.Nodup) (hb : ∀ n ∈ frm, 0 ≤ n ∧ n ≤ 990) : WorkI M frm frm 0 :=
  ⟨hn, hb, fun n h => h, fun P h1 _ => h1, fun j _ h => by omega⟩
theorem WorkI.done {M : Int → Option ObjD} {frm out : List Int} {i : Nat} (h : WorkI M frm out i) (hi : out.length ≤ i) : IsReach M frm out :=
  ⟨h.2.2.1, fun n hn o ho l hl => by
    obtain ⟨j, hj, rfl⟩ := List.getElem_of_mem hn
    exact h.2.2.2.2 j hj (by omega) o ho l hl, h.2.2.2.1⟩
/-- an id without an object -/
theorem WorkI.skip {M : Int → Option ObjD} {frm out : List Int} {i : Nat} (h : WorkI M frm out i) (hi : i < out.length) (hm : M out[i] = none) : WorkI M frm out (i + 1) := by
  refine ⟨h.1, h.2.1, h.2.2.1, h.2.2.2.1, fun j hj hji o ho => ?_⟩
  rcases Nat.lt_or_ge j i with h1 | h1
  · exact h.2.2.2.2 j hj h1 o ho
  · have : j = i := by omega
    subst this
    rw [hm] at ho; cases ho
theorem addTo_mem {out ls : List Int} : ∀ {j : Nat}, j ≤ ls.length → ∀ n, n ∈ addTo out ls j ↔ n ∈ out ∨ n ∈ ls.take j
  | 0, _, n => by simp [addTo_zero]
  | j + 1, hj, n => by
    have ih := addTo_mem (out := out) (ls := ls) (j := j) (by omega) n
    have ih2 := addTo_mem (out := out) (ls := ls) (j := j) (by omega) ls[j]
    rw [addTo_succ (by omega), List.take_succ_eq_append_getElem (by omega), List.mem_append, List.mem_singleton]
    by_cases h : ls[j] ∈ addTo out ls j
    · rw [if_pos h, ih]
      constructor
      · rintro (h1 | h1)
        · exact .inl h1
        · exact .inr (.inl h1)
      · rintro (h1 | h1 | rfl)
        · exact .inl h1
        · exact .inr h1
        · exact ih2.1 h
    · rw [if_neg h, List.mem_append, List.mem_singleton, ih, or_assoc]
theorem addTo_nodup {out ls : List Int} (h : out.Nodup) : ∀ {j : Nat}, j ≤ ls.length → (addTo out ls j).Nodup
  | 0, _ => h
  | j + 1, hj => by
    have ih := addTo_nodup h (ls := ls) (j := j) (by omega)
    rw [addTo_succ (by omega)]
    split
    · exact ih
    · rename_i hn
      rw [List.nodup_append]
      exact ⟨ih, by simp, fun a ha b hb e => by rw [List.mem_singleton.1 hb] at e; subst e; exact hn ha⟩
theorem addTo_prefix {out ls : List Int} : ∀ {j : Nat}, j ≤ ls.length → ∃ r, addTo out ls j = out ++ r
  | 0, _ => ⟨[], by simp [addTo_zero]⟩
  | j + 1, hj => by
    obtain ⟨r, hr⟩ := addTo_prefix (out := out) (ls := ls) (j := j) (by omega)
    rw [addTo_succ (by omega)]
    split
    · exact ⟨r, hr⟩
    · exact ⟨r ++ [ls[j]], by rw [hr, List.append_assoc]⟩
/-- an id whose object's links have been put behind -/
theorem WorkI.step {M : Int → Option ObjD} {frm out : List Int} {i : Nat} {o : ObjD} (h : WorkI M frm out i) (hi : i < out.length) (hm : M out[i] = some o) (hl : ∀ l ∈ o.links, 0 ≤ l ∧ l ≤ 990) : WorkI M frm (addTo out o.links o.links.length) (i + 1) := by
  have hmem : ∀ n, n ∈ addTo out o.links o.links.length ↔ n ∈ out ∨ n ∈ o.links := fun n => by
    have := addTo_mem (out := out) (ls := o.links) (Nat.le_refl _) n
    rwa [List.take_of_length_le (Nat.le_refl _)] at this
  obtain ⟨r, hr⟩ := addTo_prefix (out := out) (ls := o.links) (Nat.le_refl _)
  refine ⟨addTo_nodup h.1 (Nat.le_refl _), fun n hn => ?_, fun n hn => (hmem n).2 (.inl (h.2.2.1 n hn)), fun P h1 h2 n hn => ?_, fun j hj hji p hp l hpl => ?_⟩
  · rcases (hmem n).1 hn with h1 | h1
    · exact h.2.1 n h1
    · exact hl n h1
  · rcases (hmem n).1 hn with h3 | h3
    · exact h.2.2.2.1 P h1 h2 n h3
    · exact h2 _ o (h.2.2.2.1 P h1 h2 _ (List.getElem_mem hi)) hm n h3
  · have hjo : j < out.length := by omega
    have he : (addTo out o.links o.links.length)[j] = out[j] := by simp only [hr]; rw [List.getElem_append_left hjo]
    rw [he] at hp
    rcases Nat.lt_or_ge j i with h1 | h1
    · exact (hmem l).2 (.inl (h.2.2.2.2 j hjo h1 p hp l hpl))
    · have : j = i := by omega
      subst this
      rw [hm] at hp
      injection hp with hp
      subst hp
      exact (hmem l).2 (.inr hpl)

/-- what a queue, the ids that are stored and those that are missing hold while the queue is worked off -/
def WorkQ (M : Int → Option ObjD) (frm queue st ms : List Int) : Prop :=
  (st ++ ms).Nodup ∧ (∀ n ∈ queue ++ st ++ ms, 0 ≤ n ∧ n ≤ 990) ∧ (∀ n ∈ frm, n ∈ queue ++ st ++ ms) ∧
  (∀ P : Int → Prop, (∀ n ∈ frm, P n) → (∀ n o, P n → M n = some o → ∀ l ∈ o.links, P l) → ∀ n ∈ queue ++ st ++ ms, P n) ∧
  (∀ n ∈ st, ∃ o, M n = some o ∧ ∀ l ∈ o.links, l ∈ queue ++ st ++ ms) ∧ (∀ n ∈ ms, M n = none)
theorem WorkQ.start {M : Int → Option ObjD} {frm : List Int} (hb : ∀ n ∈ frm, 0 ≤ n ∧ n ≤ 990) : WorkQ M frm frm [] [] :=
  ⟨List.nodup_nil, by simpa using hb, by simp, fun P h1 _ => by simpa using h1, (fun n h => by cases h), (fun n h => by cases h)⟩
theorem WorkQ.done {M : Int → Option ObjD} {frm st ms : List Int} (h : WorkQ M frm [] st ms) : IsReach M frm (st ++ ms) := by
  obtain ⟨h1, h2, h3, h4, h5, h6⟩ := h
  simp only [List.nil_append] at h2 h3 h4 h5
  refine ⟨h3, fun n hn o ho l hl => ?_, h4⟩
  rcases List.mem_append.1 hn with hn | hn
  · obtain ⟨o', ho', hl'⟩ := h5 n hn
    rw [ho] at ho'
    injection ho' with e
    subst e
    exact hl' l hl
  · rw [h6 n hn] at ho; cases ho
theorem WorkQ.len {M : Int → Option ObjD} {frm queue st ms : List Int} (h : WorkQ M frm queue st ms) : st.length + ms.length ≤ 991 := by
  have := nodup_len h.1 (fun n hn => h.2.1 n (by rw [List.append_assoc]; exact List.mem_append_right _ hn))
  rwa [List.length_append] at this
/-- the first of the queue has been seen -/
theorem WorkQ.seen {M : Int → Option ObjD} {frm queue st ms : List Int} {n : Int} (h : WorkQ M frm (n :: queue) st ms) (hs : n ∈ st ++ ms) : WorkQ M frm queue st ms := by
  obtain ⟨h1, h2, h3, h4, h5, h6⟩ := h
  have key : ∀ m, m ∈ (n :: queue) ++ st ++ ms ↔ m ∈ queue ++ st ++ ms := fun m => by
    simp only [List.append_assoc, List.mem_append, List.mem_cons] at hs ⊢
    constructor
    · rintro ((rfl | h) | h)
      · exact .inr hs
      · exact .inl h
      · exact .inr h
    · rintro (h | h)
      · exact .inl (.inr h)
      · exact .inr h
  exact ⟨h1, fun m hm => h2 m ((key m).2 hm), fun m hm => (key m).1 (h3 m hm), fun P a b m hm => h4 P a b m ((key m).2 hm), fun m hm => by
    obtain ⟨o, ho, hl⟩ := h5 m hm
    exact ⟨o, ho, fun l hl' => (key l).1 (hl l hl')⟩, h6⟩
/-- .. is new, and missing -/
theorem WorkQ.miss {M : Int → Option ObjD} {frm queue st ms : List Int} {n : Int} (h : WorkQ M frm (n :: queue) st ms) (hs : n ∉ st ++ ms) (hm : M n = none) : WorkQ M frm queue st (ms ++ [n]) := by
  obtain ⟨h1, h2, h3, h4, h5, h6⟩ := h
  have key : ∀ m, m ∈ (n :: queue) ++ st ++ ms ↔ m ∈ queue ++ st ++ (ms ++ [n]) := fun m => by
    simp only [List.append_assoc, List.mem_append, List.mem_cons, List.mem_singleton, List.not_mem_nil, or_false]
    constructor
    · rintro ((rfl | h) | h | h)
      · exact .inr (.inr (.inr rfl))
      · exact .inl h
      · exact .inr (.inl h)
      · exact .inr (.inr (.inl h))
    · rintro (h | h | h | rfl)
      · exact .inl (.inr h)
      · exact .inr (.inl h)
      · exact .inr (.inr h)
      · exact .inl (.inl rfl)
  refine ⟨?_, fun m hm => h2 m ((key m).2 hm), fun m hm => (key m).1 (h3 m hm), fun P a b m hm => h4 P a b m ((key m).2 hm), fun m hm => ?_, fun m hm' => ?_⟩
  · rw [← List.append_assoc, List.nodup_append]
    exact ⟨h1, by simp, fun a ha b hb e => by rw [List.mem_singleton.1 hb] at e; subst e; exact hs ha⟩
  · obtain ⟨o, ho, hl⟩ := h5 m hm
    exact ⟨o, ho, fun l hl' => (key l).1 (hl l hl')⟩
  · rcases List.mem_append.1 hm' with h | h
    · exact h6 m h
    · rw [List.mem_singleton.1 h]; exact hm
/-- .. is new, and stored -/
theorem WorkQ.have_ {M : Int → Option ObjD} {frm queue st ms : List Int} {n : Int} {o : ObjD} (h : WorkQ M frm (n :: queue) st ms) (hs : n ∉ st ++ ms) (hm : M n = some o) (hl : ∀ l ∈ o.links, 0 ≤ l ∧ l ≤ 990) : WorkQ M frm (queue ++ o.links) (st ++ [n]) ms := by
  obtain ⟨h1, h2, h3, h4, h5, h6⟩ := h
  have key : ∀ m, m ∈ queue ++ o.links ++ (st ++ [n]) ++ ms ↔ m ∈ (n :: queue) ++ st ++ ms ∨ m ∈ o.links := fun m => by
    simp only [List.append_assoc, List.mem_append, List.mem_cons, List.mem_singleton, List.not_mem_nil, or_false]
    constructor
    · rintro (h | h | h | rfl | h)
      · exact .inl (.inl (.inr h))
      · exact .inr h
      · exact .inl (.inr (.inl h))
      · exact .inl (.inl (.inl rfl))
      · exact .inl (.inr (.inr h))
    · rintro (((rfl | h) | h | h) | h)
      · exact .inr (.inr (.inr (.inl rfl)))
      · exact .inl h
      · exact .inr (.inr (.inl h))
      · exact .inr (.inr (.inr (.inr h)))
      · exact .inr (.inl h)
  refine ⟨?_, fun m hm' => ?_, fun m hm' => (key m).2 (.inl (h3 m hm')), fun P a b m hm' => ?_, fun m hm' => ?_, h6⟩
  · rw [List.append_assoc]
    have hp : (st ++ ([n] ++ ms)).Perm (n :: (st ++ ms)) := by simp
    exact hp.nodup_iff.2 (List.nodup_cons.2 ⟨hs, h1⟩)
  · rcases (key m).1 hm' with h | h
    · exact h2 m h
    · exact hl m h
  · rcases (key m).1 hm' with h | h
    · exact h4 P a b m h
    · exact b n o (h4 P a b n (by simp)) hm m h
  · rcases List.mem_append.1 hm' with h | h
    · obtain ⟨o', ho', hl'⟩ := h5 m h
      exact ⟨o', ho', fun l hl'' => (key l).2 (.inl (hl' l hl''))⟩
    · rw [List.mem_singleton.1 h]
      exact ⟨o, hm, fun l hl'' => (key l).2 (.inr hl'')⟩
/-- the sorted halves -/
theorem WorkQ.halves {M : Int → Option ObjD} {frm st ms : List Int} (h : WorkQ M frm [] st ms) {ss mm : List Int} (hs : ss.Perm st) (hsa : ss.Pairwise (· ≤ ·)) (hm : mm.Perm ms) (hma : mm.Pairwise (· ≤ ·)) :
    ss = (reaL M frm).filter (fun n => (M n).isSome) ∧ mm = (reaL M frm).filter (fun n => (M n).isNone) := by
  have hR := h.done
  rw [reaL_of hR]
  obtain ⟨h1, h2, h3, h4, h5, h6⟩ := h
  simp only [List.nil_append] at h2
  have hnd := List.nodup_append.1 h1
  have strict : ∀ {xs ys : List Int}, xs.Perm ys → ys.Nodup → xs.Pairwise (· ≤ ·) → xs.Pairwise (· < ·) := fun hp hn ha => by
    have hx := List.nodup_iff_pairwise_ne.1 (hp.nodup_iff.2 hn)
    exact List.Pairwise.imp₂ (fun _ _ a b => by omega) ha hx
  refine ⟨asc_extI (strict hs hnd.1 hsa) (List.Pairwise.filter _ (srtR_asc _)) fun n => ?_, asc_extI (strict hm hnd.2.1 hma) (List.Pairwise.filter _ (srtR_asc _)) fun n => ?_⟩
  · rw [hs.mem_iff, List.mem_filter, srtR_mem, List.mem_append]
    constructor
    · intro hn
      obtain ⟨o, ho, -⟩ := h5 n hn
      exact ⟨⟨h2 n (List.mem_append_left _ hn), .inl hn⟩, by rw [ho]; rfl⟩
    · rintro ⟨⟨_, hn | hn⟩, hi⟩
      · exact hn
      · rw [h6 n hn] at hi; cases hi
  · rw [hm.mem_iff, List.mem_filter, srtR_mem, List.mem_append]
    constructor
    · intro hn
      exact ⟨⟨h2 n (List.mem_append_right _ hn), .inr hn⟩, by rw [h6 n hn]; rfl⟩
    · rintro ⟨⟨_, hn | hn⟩, hi⟩
      · obtain ⟨o, ho, -⟩ := h5 n hn
        rw [ho] at hi; cases hi
      · exact hn

end Go.Proofs.YtnaeglfochnikaaGreat

namespace Go.Proofs.YtnaeglfochnikaaGreat
set_option linter.unusedVariables false
set_option linter.unusedSimpArgs false
open Go.ChangeShapes Go.WideShapes Go.ChangeAt Go.RowKit
open Go.ChangeMaps (open_string shut_string)

theorem Tryz.own : ownKnob Tryz.prog.godebug = none := by kernel_rfl
theorem Tryz.laidOut : laidOutB Tryz.prog = true := by kernel_rfl

/-- what is known of a slice of integers that came in: nil, or a row of 'cap' cells of which the first 'len' are its elements; each fits its kind -/
def IsRow (k : IntKind) (w : World) (a : Option Addr) (len cap : Nat) (zs : List Int) : Prop :=
  (a = none ∧ len = 0 ∧ cap = 0 ∧ zs = []) ∨
  ∃ x, a = some x ∧ len ≤ cap ∧ cap ≤ maxLen ∧ zs.length = cap ∧ (∀ i, i < zs.length → w.cell? (x.add i) = some (.int k (zs.getD i 0))) ∧ ∀ n ∈ zs, (Lit.int k n).wf = true

theorem open_row {H : Type} {enc : TypeId × Value → H} {P : Program} {w : World} {spare : Nat → Bool} {held : Bool} {t e : TypeId} {k : IntKind} (ht : P.underlying t = some (.slice e)) (he : P.underlying e = some (.int k)) (hce : P.cellsOf e = 1)
    {a : Option Addr} {len cap : Nat} {d : DataW H} {pl : List MemPlace} (h : DataW.Trod enc P w 0 spare held t (.slice a len cap) d pl) (hs : ∀ b, spare b = true) : ∃ zs, IsRow k w a len cap zs := by
  obtain ⟨fuel, hf⟩ := h
  rcases open_ints ht he hce hf with ⟨hcs, _⟩ | ⟨x, l, c, zs, hcs, _, hl, hm, hz, _, hcell, hwz⟩
  · simp [Value.cells] at hcs
    obtain ⟨rfl, rfl, rfl⟩ := hcs
    exact ⟨[], .inl ⟨rfl, rfl, rfl, rfl⟩⟩
  · simp [Value.cells] at hcs
    obtain ⟨rfl, rfl, rfl⟩ := hcs
    exact ⟨zs, .inr ⟨_, rfl, hl, hm, by simpa [hs] using hz, hcell, hwz⟩⟩

theorem IsRow.cap {k : IntKind} {w : World} {a : Option Addr} {len cap : Nat} {zs : List Int} (h : IsRow k w a len cap zs) : len ≤ cap ∧ cap ≤ maxLen := by
  rcases h with ⟨_, rfl, rfl, _⟩ | ⟨x, _, h1, h2, _⟩
  · exact ⟨Nat.le_refl _, Nat.zero_le _⟩
  · exact ⟨h1, h2⟩
theorem IsRow.bd {k : IntKind} {w : World} {a : Option Addr} {len cap : Nat} {zs : List Int} (h : IsRow k w a len cap zs) : len ≤ 9223372036854775807 := by
  have := h.cap; unfold maxLen at this; omega

/-- an integer's cell, of kind k -/
def ck (k : IntKind) (x : Int) : List Value := [.int k x]
theorem IsRow.fl {k : IntKind} {w : World} {a : Option Addr} {len cap : Nat} {zs : List Int} (h : IsRow k w a len cap zs) : Fl (ck k) w 0 w.heap.size a len (zs.take len) := by
  rcases h with ⟨rfl, rfl, rfl, rfl⟩ | ⟨x, rfl, h1, h2, hz, hc, _⟩
  · exact Fl.nil _ _ _ _ _
  · refine ⟨by rw [List.length_take]; omega, fun hne => ?_⟩
    have hl : 0 < len := by
      rcases Nat.eq_zero_or_pos len with h0 | h0
      · subst h0; exact absurd rfl hne
      · exact h0
    have h0 := hc 0 (by omega)
    have hx : x = ⟨x.block, x.off, none⟩ := by
      rcases x with ⟨b, o, _ | s⟩
      · rfl
      · simp [Addr.add, World.cell?] at h0
        split at h0 <;> simp at h0
    have hb : x.block < w.heap.size := World.block_lt_of_cell? w (x.add 0) h0
    refine ⟨x.block, x.off, by rw [← hx], Nat.zero_le _, hb, fun j u hu => ?_⟩
    have e : ((zs.take len).flatMap (ck k)) = (zs.take len).map (Value.int k) := by
      induction (zs.take len) with
      | nil => rfl
      | cons y ys ih => simp [ck, ih]
    rw [e, List.getElem?_map] at hu
    have hj : j < (zs.take len).length := by
      rcases Nat.lt_or_ge j (zs.take len).length with h | h
      · exact h
      · rw [List.getElem?_eq_none h] at hu; cases hu
    rw [List.length_take] at hj
    rw [List.getElem?_take, if_pos (by omega), List.getElem?_eq_getElem (by omega)] at hu
    injection hu with hu
    have := hc j (by omega)
    rw [List.getD_eq_getElem?_getD, List.getElem?_eq_getElem (by omega)] at this
    have e2 : x.add j = ⟨x.block, x.off + j, none⟩ := by
      unfold Addr.add
      by_cases hj0 : j = 0
      · subst hj0; rw [if_pos rfl]; exact hx
      · rw [if_neg hj0]
    rw [← e2, this, ← hu]; rfl
theorem IsRow.ints {w : World} {a : Option Addr} {len cap : Nat} {zs : List Int} (h : IsRow .i64 w a len cap zs) : Ints w 0 w.heap.size a len (zs.take len) := h.fl
theorem IsRow.wf {k : IntKind} {w : World} {a : Option Addr} {len cap : Nat} {zs : List Int} (h : IsRow k w a len cap zs) : ∀ n ∈ zs.take len, (Lit.int k n).wf = true := by
  intro n hn
  rcases h with ⟨rfl, rfl, rfl, rfl⟩ | ⟨x, rfl, h1, h2, hz, hc, hw⟩
  · cases hn
  · exact hw n (List.mem_of_mem_take hn)

end Go.Proofs.YtnaeglfochnikaaGreat
