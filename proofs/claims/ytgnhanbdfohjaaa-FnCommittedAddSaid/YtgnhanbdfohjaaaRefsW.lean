/-
  The walks of RefsValid and UpdatesValid, of the program and of the reference: refsB and updsB of what their slices read as. Condition: lengths fit an int64.
-/
import Derived.Test.YtgnhanbdfohjaaaUpdX
import Derived.Test.YtgnhanbdfohjaaaK1
import Derived.Test.YtgnhanbdfohjaaaK2
import Derived.Deep.QuietTactic
import Derived.BigQuiet
namespace Go.Proofs.Ytgnhanbdfohjaaa
set_option linter.unusedVariables false
set_option linter.unusedSimpArgs false
open Go.RowKit

set_option maxHeartbeats 400000 in
theorem isRefId_any (n : Int) (w : World) : Calls Try.prog 67 #[.int .i64 n] w fun e w' => e = .returned (.bool (rid n)) ∧ w = w' := by
  go_enter Try.func67, Try.ntmps67
  go_wp2_with (go_at_call 58; refine (inRange_any _ _ _ _).mono ?_; rintro e w' ⟨rfl, rfl⟩)
  go_ret
  exact ⟨rfl, rfl⟩

/-- updates up to the k-th are valid -/
def updsTo (us : List Upd) (k : Nat) : Prop := Asc 0 (us.take k)

theorem updsB_first {us : List Upd} {k : Nat} (hk : k < us.length) (h : uokB us[k] = false) : updsB us = false := by
  rw [← Bool.not_eq_true]
  intro hb
  have := ((updsB_asc hb).1.mem _ (List.getElem_mem hk)).1
  rw [h] at this; cases this
theorem Asc.pair {us : List Upd} : ∀ {lo : Int} {k : Nat}, Asc lo us → ∀ (hk : k + 1 < us.length), us[k].ref < us[k + 1].ref := by
  induction us with
  | nil => intro lo k _ hk; simp at hk
  | cons u us ih =>
    intro lo k h hk
    rcases k with _ | k
    · simp only [List.length_cons] at hk
      have := (h.2.2.mem us[0] (List.getElem_mem (by omega))).2
      simp only [List.getElem_cons_zero, List.getElem_cons_succ]; omega
    · simp only [List.getElem_cons_succ]
      exact ih h.2.2 (by simpa using hk)
theorem updsB_pair {us : List Upd} {k : Nat} (hk : k + 1 < us.length) (h : us[k + 1].ref ≤ us[k].ref) : updsB us = false := by
  rw [← Bool.not_eq_true]
  intro hb
  have := (updsB_asc hb).1.pair hk
  omega
theorem Asc.snoc {us : List Upd} {u : Upd} : ∀ {lo : Int}, Asc lo us → uokB u = true → (∀ v ∈ us, v.ref < u.ref) → lo ≤ u.ref → Asc lo (us ++ [u]) := by
  induction us with
  | nil => intro lo _ hu _ hl; exact ⟨hu, hl, trivial⟩
  | cons v us ih =>
    intro lo h hu hall hl
    refine ⟨h.1, h.2.1, ih h.2.2 hu (fun x hx => hall x (List.mem_cons_of_mem _ hx)) ?_⟩
    have := hall v (List.mem_cons_self ..); omega
theorem Asc.last_max {us : List Upd} : ∀ {lo : Int} {k : Nat}, Asc lo us → ∀ (hk : k + 1 = us.length), ∀ v ∈ us, v.ref ≤ (us[k]'(by omega)).ref := by
  induction us with
  | nil => intro lo k _ hk; simp at hk
  | cons u us ih =>
    intro lo k h hk v hv
    rcases k with _ | k
    · have : us = [] := List.eq_nil_of_length_eq_zero (by simpa using hk.symm)
      subst this
      rw [List.mem_singleton.1 hv]; simp
    · simp only [List.getElem_cons_succ]
      have hkl : k + 1 = us.length := by simpa using hk
      rcases List.mem_cons.1 hv with rfl | hv
      · have := (h.2.2.mem us[k] (List.getElem_mem _)).2; omega
      · exact ih h.2.2 hkl v hv
theorem updsTo_first {us : List Upd} (hk : 0 < us.length) (h : uokB us[0] = true) : updsTo us 1 := by
  unfold updsTo
  rcases us with _ | ⟨u, us⟩
  · simp at hk
  · exact ⟨h, ((uokB_iff u).1 h).1.1, trivial⟩
theorem updsTo_next {us : List Upd} {k : Nat} (hk : k + 1 < us.length) (ht : updsTo us (k + 1)) (h : uokB us[k + 1] = true) (hp : us[k].ref < us[k + 1].ref) : updsTo us (k + 1 + 1) := by
  unfold updsTo at ht ⊢
  rw [List.take_succ_eq_append_getElem hk]
  refine ht.snoc h (fun v hv => ?_) ((uokB_iff _).1 h).1.1
  have := ht.last_max (k := k) (by rw [List.length_take]; omega) v hv
  rw [List.getElem_take] at this
  omega
theorem updsTo_all {us : List Upd} {n : Nat} (hl : us.length = n) (ht : updsTo us n) : updsB us = decide (0 < n) := by
  unfold updsTo at ht
  rw [List.take_of_length_le (by omega)] at ht
  by_cases h0 : 0 < n
  · rw [asc_updsB ht (by intro e; rw [e] at hl; simp at hl; omega)]; simp [h0]
  · have : us = [] := List.eq_nil_of_length_eq_zero (by omega)
    subst this
    have : n = 0 := by omega
    subst this; rfl

set_option maxHeartbeats 3200000 in
theorem implUpds_any (A : Option Addr) (n c : Nat) (us : List Upd) (w : World) (lo hi : Nat) (hh : hi ≤ w.heap.size) (hn : n ≤ 9223372036854775807) (h : Fl cu w lo hi A n us) :
    Calls Try.prog 51 #[.slice A n c] w fun e w' => e = .returned (.bool (updsB us)) ∧ Below w.heap.size w w' := by
  have HI := Lib.hid h
  clear h
  go_enter Try.func51, Try.ntmps51
  go_wp2_with fail
  go_loopw [7] (fun i wr => ∃ k : Nat, k ≤ n ∧ i = .int .i64 k ∧ updsTo us k ∧ Below w.heap.size w wr) (fun i _ => n - (intOf i).toNat)
  case atStart => exact ⟨0, Nat.zero_le _, rfl, trivial, Below.refl _ _⟩
  case round =>
    obtain ⟨k, hk, rfl, ht, hb⟩ := hrel
    have HT := Lib.hid ht
    have HB := Lib.hid hb
    have hwsz := hb.size
    clear ht hb
    by_cases hlt : k < n
    · obtain ⟨b, o, hl, rfl, _, hbh, hc0, hc1, hc2⟩ := fl_upd (HI.out.below HB.out hh) hlt
      rcases g1 : inR us[k].ref 0 3 with _ | _
      · have hno := Lib.hid (updsB_first hl (by unfold uokB; rw [g1]; rfl))
        go_wp2_with fail
        go_quiet ((first | (go_at_call 58; first | exact quiet_left (inRange_any _ _ _ _) | exact quiet_add_left (inRange_any _ _ _ _)) | (go_at_call 67; first | exact quiet_left (isRefId_any _ _) | exact quiet_add_left (isRefId_any _ _))))
        go_wp2_with fail
        go_ret
        exact ⟨ret_bool hno.out.symm, below_drewN (HB.out.alloc hwsz _) _⟩
      · rcases g2 : rid us[k].old with _ | _
        · have hno := Lib.hid (updsB_first hl (by unfold uokB; rw [g1, g2]; rfl))
          go_wp2_with fail
          go_quiet ((first | (go_at_call 58; first | exact quiet_left (inRange_any _ _ _ _) | exact quiet_add_left (inRange_any _ _ _ _)) | (go_at_call 67; first | exact quiet_left (isRefId_any _ _) | exact quiet_add_left (isRefId_any _ _))))
          go_wp2_with fail
          go_ret
          exact ⟨ret_bool hno.out.symm, below_drewN (HB.out.alloc hwsz _) _⟩
        · rcases g3 : rid us[k].new_ with _ | _
          · have hno := Lib.hid (updsB_first hl (by unfold uokB; rw [g1, g2, g3]; rfl))
            go_wp2_with fail
            go_quiet ((first | (go_at_call 58; first | exact quiet_left (inRange_any _ _ _ _) | exact quiet_add_left (inRange_any _ _ _ _)) | (go_at_call 67; first | exact quiet_left (isRefId_any _ _) | exact quiet_add_left (isRefId_any _ _))))
            go_wp2_with fail
            go_ret
            exact ⟨ret_bool hno.out.symm, below_drewN (HB.out.alloc hwsz _) _⟩
          · by_cases g4 : us[k].old = us[k].new_
            · have hd4 : (us[k].old == us[k].new_) = true := by rw [beq_iff_eq]; exact g4
              have hno := Lib.hid (updsB_first hl (by unfold uokB; rw [g1, g2, g3, decide_eq_true g4]; rfl))
              clear g4
              go_wp2_with fail
              go_quiet ((first | (go_at_call 58; first | exact quiet_left (inRange_any _ _ _ _) | exact quiet_add_left (inRange_any _ _ _ _)) | (go_at_call 67; first | exact quiet_left (isRefId_any _ _) | exact quiet_add_left (isRefId_any _ _))))
              go_wp2_with fail
              go_ret
              exact ⟨ret_bool hno.out.symm, below_drewN (HB.out.alloc hwsz _) _⟩
            · have hd4 : (us[k].old == us[k].new_) = false := by rw [beq_eq_false_iff_ne]; exact g4
              have hok : Hid (uokB us[k] = true) := by show _ = _; unfold uokB; rw [g1, g2, g3, decide_eq_false g4]; rfl
              clear g4
              rcases k with _ | k
              · have hnx := Lib.hid (updsTo_first hl hok.out)
                simp only [Nat.zero_mul, Nat.add_zero] at hc0 hc1 hc2
                go_wp2_with fail
                go_quiet ((first | (go_at_call 58; first | exact quiet_left (inRange_any _ _ _ _) | exact quiet_add_left (inRange_any _ _ _ _)) | (go_at_call 67; first | exact quiet_left (isRefId_any _ _) | exact quiet_add_left (isRefId_any _ _))))
                go_wp2_with fail
                exact ⟨⟨1, by omega, rfl, hnx.out, below_drewN (HB.out.alloc hwsz _) _⟩, by simp [intOf]; omega⟩
              · obtain ⟨b1, o1, hl1, he1, _, _, hp0, hp1, hp2⟩ := fl_upd (HI.out.below HB.out hh) (k := k) (by omega)
                injection he1 with he1
                injection he1 with he1 he2
                subst he1 he2
                clear hp1 hp2
                have hwk : IntKind.i64.wrap (k : Int) = (k : Int) := IntWalk.i64_in _ (by omega)
                have hkn1 : (k : Int) < (n : Int) := by omega
                have hkn2 : k < n := by omega
                have hpa : ∀ ob : Obj, (wr.alloc ob).cell? ⟨b, o + k * 3, none⟩ = some (.int .i64 us[k].ref) := fun ob => (World.cell?_alloc_lt wr ob ⟨b, o + k * 3, none⟩ (Nat.lt_of_lt_of_le hbh (Nat.le_trans hh hwsz))).trans hp0
                by_cases g6 : us[k + 1].ref ≤ us[k].ref
                · have hno := Lib.hid (updsB_pair hl g6)
                  go_wp2_with fail
                  go_quiet ((first | (go_at_call 58; first | exact quiet_left (inRange_any _ _ _ _) | exact quiet_add_left (inRange_any _ _ _ _)) | (go_at_call 67; first | exact quiet_left (isRefId_any _ _) | exact quiet_add_left (isRefId_any _ _))))
                  go_wp2_with fail
                  go_ret
                  exact ⟨ret_bool hno.out.symm, below_drewN (HB.out.alloc hwsz _) _⟩
                · have hnx := Lib.hid (updsTo_next hl HT.out hok.out (by omega))
                  have hd6 : decide (us[k + 1].ref ≤ us[k].ref) = false := decide_eq_false g6
                  go_wp2_with fail
                  go_quiet ((first | (go_at_call 58; first | exact quiet_left (inRange_any _ _ _ _) | exact quiet_add_left (inRange_any _ _ _ _)) | (go_at_call 67; first | exact quiet_left (isRefId_any _ _) | exact quiet_add_left (isRefId_any _ _))))
                  go_wp2_with fail
                  exact ⟨⟨k + 1 + 1, by omega, by go_num, hnx.out, below_drewN (HB.out.alloc hwsz _) _⟩, by simp [intOf]; omega⟩
    · have hkn : k = n := by omega
      subst hkn
      have hres := Lib.hid (updsTo_all HI.out.1 HT.out)
      go_wp2_with fail
      go_ret
      exact ⟨ret_bool (by rw [hres.out]), HB.out⟩

end Go.Proofs.Ytgnhanbdfohjaaa
