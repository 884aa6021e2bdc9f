/-
  The walks of the program's Object.ok, Object.id and of the reference's ObjectValid, l1Of: whether an object is valid, and its id. Condition: lengths fit an int64.
-/
import Derived.Test.YtnaeglfochnikaaGreatObjW
namespace Go.Proofs.YtnaeglfochnikaaGreat
set_option linter.unusedVariables false
set_option linter.unusedSimpArgs false
open Go.RowKit

theorem objB_links {o : ObjD} (h : linksB o.links = false) : objB o = false := by unfold objB; rw [h]; rfl
theorem objB_text {o : ObjD} (h : 8 < o.text.size) : objB o = false := by
  unfold objB; rw [show decide (o.text.size ≤ 8) = false from decide_eq_false (by omega)]; simp
theorem objB_kind {o : ObjD} (h1 : linksB o.links = true) (h2 : o.text.size ≤ 8) : objB o = kindB o.kind o.links.length o.text.size := by
  unfold objB; rw [h1, decide_eq_true h2]; rfl
theorem linksB_of {xs : List Int} (h : idsB xs = true) (hl : xs.length ≤ 4) : linksB xs = true := by unfold linksB; rw [h, decide_eq_true hl]; rfl
theorem linksB_long {xs : List Int} (hl : 4 < xs.length) : linksB xs = false := by unfold linksB; rw [decide_eq_false (by omega : ¬ xs.length ≤ 4)]; simp

/-- what the three kinds ask, as the code says it -/
theorem kind_one (n t : Nat) : kindB 1 n t = decide (n = 0) := rfl
theorem kind_two (n t : Nat) : kindB 2 n t = decide (t = 0) := rfl
theorem kind_three (n t : Nat) : kindB 3 n t = decide (0 < n) := rfl
theorem kind_other {k : Int} (h1 : ¬ k = 1) (h2 : ¬ k = 2) (h3 : ¬ k = 3) (n t : Nat) : kindB k n t = false := by unfold kindB; rw [if_neg h1, if_neg h2, if_neg h3]
theorem text_nil (s : ByteArray) : s.toList.isEmpty = decide (s.size = 0) := by
  rw [Bool.eq_iff_iff, List.isEmpty_iff, bytes_nil]; simp
theorem text_eq (s : ByteArray) : (s.toList == ([] : List UInt8)) = decide (s.size = 0) := by
  rw [Bool.eq_iff_iff, beq_iff_eq, bytes_nil]; simp

set_option maxHeartbeats 1600000 in
theorem objOk_any (kind : Int) (links : List Int) (text : ByteArray) (A : Option Addr) (n c : Nat) (w : World) (lo hi : Nat) (hh : hi ≤ w.heap.size) (ht : text.size ≤ 9223372036854775807) (h : D.rd w lo hi (intsD links) (.slice A n c)) :
    Calls Tryz.prog 63 #[.agg #[.int .i64 kind, .slice A n c, .string text]] w fun e w' => e = .returned (.bool (objB ⟨kind, links, text⟩)) ∧ Below w.heap.size w w' := by
  have hn := h.len
  have hl := h.ints.1
  have hn63 : n ≤ 9223372036854775807 := by omega
  have HI : Hid (Ints (w.alloc (.cells #[.int .i64 kind, .slice A n c, .string text] 52)) lo hi A n links) := h.ints.alloc hh _
  have HB : Hid (Below w.heap.size w (w.alloc (.cells #[.int .i64 kind, .slice A n c, .string text] 52))) := (Below.refl _ _).alloc (Nat.le_refl _) _
  have HL := Lib.hid hl
  clear h hn hl
  rcases hv : linksB links with _ | _
  · have hno := Lib.hid (objB_links (o := ⟨kind, links, text⟩) hv)
    go_enter Tryz.func63, Tryz.ntmps63
    go_wp2_with (go_at_call 42; refine (idsOk_any _ _ _ links _ lo hi (by omega) HI.out).mono ?_; rintro e w' ⟨rfl, rfl⟩)
    go_ret
    exact ⟨ret_bool hno.out.symm, HB.out⟩
  · by_cases h8 : 8 < text.size
    · have hno := Lib.hid (objB_text (o := ⟨kind, links, text⟩) h8)
      go_enter Tryz.func63, Tryz.ntmps63
      go_wp2_with (go_at_call 42; refine (idsOk_any _ _ _ links _ lo hi (by omega) HI.out).mono ?_; rintro e w' ⟨rfl, rfl⟩)
      go_ret
      exact ⟨ret_bool hno.out.symm, HB.out⟩
    · have HK := Lib.hid (objB_kind (o := ⟨kind, links, text⟩) hv (by show text.size ≤ 8; omega))
      have hk8 : text.size ≤ 8 := by omega
      clear h8
      by_cases k1 : kind = 1
      · subst k1
        go_enter Tryz.func63, Tryz.ntmps63
        go_wp2_with (go_at_call 42; refine (idsOk_any _ _ _ links _ lo hi (by omega) HI.out).mono ?_; rintro e w' ⟨rfl, rfl⟩)
        go_ret
        refine ⟨ret_bool ?_, HB.out⟩
        rw [HK.out, kind_one]
        show _ = decide (links.length = 0)
        rw [HL.out, Bool.eq_iff_iff]
        simp
      · by_cases k2 : kind = 2
        · subst k2
          have hq : ((2 : Int) == 1) = false := rfl
          go_enter Tryz.func63, Tryz.ntmps63
          go_wp2_with (go_at_call 42; refine (idsOk_any _ _ _ links _ lo hi (by omega) HI.out).mono ?_; rintro e w' ⟨rfl, rfl⟩)
          go_ret
          refine ⟨ret_bool ?_, HB.out⟩
          rw [HK.out, kind_two]
          first | exact text_eq text | exact text_nil text
        · by_cases k3 : kind = 3
          · subst k3
            go_enter Tryz.func63, Tryz.ntmps63
            go_wp2_with (go_at_call 42; refine (idsOk_any _ _ _ links _ lo hi (by omega) HI.out).mono ?_; rintro e w' ⟨rfl, rfl⟩)
            go_ret
            refine ⟨ret_bool ?_, HB.out⟩
            rw [HK.out, kind_three]
            show _ = decide (0 < links.length)
            rw [HL.out]
          · have hno := Lib.hid (HK.out.trans (kind_other k1 k2 k3 _ _))
            have q1 : (kind == 1) = false := by simpa using k1
            have q2 : (kind == 2) = false := by simpa using k2
            have q3 : (kind == 3) = false := by simpa using k3
            clear k1 k2 k3
            go_enter Tryz.func63, Tryz.ntmps63
            go_wp2_with (go_at_call 42; refine (idsOk_any _ _ _ links _ lo hi (by omega) HI.out).mono ?_; rintro e w' ⟨rfl, rfl⟩)
            go_ret
            exact ⟨ret_bool hno.out.symm, HB.out⟩

set_option maxHeartbeats 1600000 in
theorem objValid_any (kind : Int) (links : List Int) (text : ByteArray) (A : Option Addr) (n c : Nat) (w : World) (lo hi : Nat) (hh : hi ≤ w.heap.size) (ht : text.size ≤ 9223372036854775807) (h : D.rd w lo hi (intsD links) (.slice A n c)) :
    Calls Tryz.prog 49 #[.agg #[.int .i64 kind, .slice A n c, .string text]] w fun e w' => e = .returned (.bool (objB ⟨kind, links, text⟩)) ∧ Below w.heap.size w w' := by
  have hn := h.len
  have hl := h.ints.1
  have hn63 : n ≤ 9223372036854775807 := by omega
  have HI : Hid (Ints (w.alloc (.cells #[.int .i64 kind, .slice A n c, .string text] 52)) lo hi A n links) := h.ints.alloc hh _
  have HB : Hid (Below w.heap.size w (w.alloc (.cells #[.int .i64 kind, .slice A n c, .string text] 52))) := (Below.refl _ _).alloc (Nat.le_refl _) _
  have HL := Lib.hid hl
  clear h hn hl
  rcases hv : idsB links with _ | _
  · have hno := Lib.hid (objB_links (o := ⟨kind, links, text⟩) (linksB_no hv))
    go_enter Tryz.func49, Tryz.ntmps49
    go_wp2_with (go_at_call 79; refine (l1Ids_any _ _ _ links _ lo hi (by omega) HI.out).mono ?_; rintro e w' ⟨rfl, m, rfl⟩)
    go_ret
    exact ⟨ret_bool hno.out.symm, below_drewN HB.out m⟩
  · by_cases h4 : 4 < n
    · have hno := Lib.hid (objB_links (o := ⟨kind, links, text⟩) (linksB_long (by show 4 < links.length; rw [HL.out]; exact h4)))
      go_enter Tryz.func49, Tryz.ntmps49
      go_wp2_with (go_at_call 79; refine (l1Ids_any _ _ _ links _ lo hi (by omega) HI.out).mono ?_; rintro e w' ⟨rfl, m, rfl⟩)
      go_ret
      exact ⟨ret_bool hno.out.symm, below_drewN HB.out m⟩
    · have hk4 : n ≤ 4 := by omega
      have hlb := Lib.hid (linksB_of hv (by rw [HL.out]; exact hk4))
      clear h4
      by_cases h8 : 8 < text.size
      · have hno := Lib.hid (objB_text (o := ⟨kind, links, text⟩) h8)
        go_enter Tryz.func49, Tryz.ntmps49
        go_wp2_with (go_at_call 79; refine (l1Ids_any _ _ _ links _ lo hi (by omega) HI.out).mono ?_; rintro e w' ⟨rfl, m, rfl⟩)
        go_ret
        exact ⟨ret_bool hno.out.symm, below_drewN HB.out m⟩
      · have HK := Lib.hid (objB_kind (o := ⟨kind, links, text⟩) hlb.out (by show text.size ≤ 8; omega))
        have hk8 : text.size ≤ 8 := by omega
        clear h8
        by_cases k1 : kind = 1
        · subst k1
          go_enter Tryz.func49, Tryz.ntmps49
          go_wp2_with (go_at_call 79; refine (l1Ids_any _ _ _ links _ lo hi (by omega) HI.out).mono ?_; rintro e w' ⟨rfl, m, rfl⟩)
          go_ret
          refine ⟨ret_bool ?_, below_drewN HB.out m⟩
          rw [HK.out, kind_one]
          show _ = decide (links.length = 0)
          rw [HL.out, Bool.eq_iff_iff]
          simp
        · by_cases k2 : kind = 2
          · subst k2
            have hq : ((2 : Int) == 1) = false := rfl
            go_enter Tryz.func49, Tryz.ntmps49
            go_wp2_with (go_at_call 79; refine (l1Ids_any _ _ _ links _ lo hi (by omega) HI.out).mono ?_; rintro e w' ⟨rfl, m, rfl⟩)
            go_ret
            refine ⟨ret_bool ?_, below_drewN HB.out m⟩
            rw [HK.out, kind_two]
            first | exact text_eq text | exact text_nil text
          · by_cases k3 : kind = 3
            · subst k3
              go_enter Tryz.func49, Tryz.ntmps49
              go_wp2_with (go_at_call 79; refine (l1Ids_any _ _ _ links _ lo hi (by omega) HI.out).mono ?_; rintro e w' ⟨rfl, m, rfl⟩)
              go_ret
              refine ⟨ret_bool ?_, below_drewN HB.out m⟩
              rw [HK.out, kind_three]
              show _ = decide (0 < links.length)
              rw [HL.out]
            · have hno := Lib.hid (HK.out.trans (kind_other k1 k2 k3 _ _))
              have q1 : (kind == 1) = false := by simpa using k1
              have q2 : (kind == 2) = false := by simpa using k2
              have q3 : (kind == 3) = false := by simpa using k3
              clear k1 k2 k3
              go_enter Tryz.func49, Tryz.ntmps49
              go_wp2_with (go_at_call 79; refine (l1Ids_any _ _ _ links _ lo hi (by omega) HI.out).mono ?_; rintro e w' ⟨rfl, m, rfl⟩)
              go_ret
              exact ⟨ret_bool hno.out.symm, below_drewN HB.out m⟩

end Go.Proofs.YtnaeglfochnikaaGreat
