/-
  The walk of DrawRefsApply: a short row of values and a short row of updates in new memory. No condition.
  The walks of sameInts and sameUpdates: where two slices read alike the answer is true. And the words for an answer of RefsApply. Condition: lengths fit an int64.
  The walks of RefsDiffer, of the program and of the reference: the updates that lead from one to the other, in new memory. Condition: at most four refs each.
  The walk of the reference's RefsDiffer: the updates that lead from one to the other, in new memory. Condition: at most four refs each.
-/
import Derived.Test.YtgbkjfhmbchiiaaDrawUpds
import Derived.Test.YtgbkjfhmbchiiaaM6
import Derived.Test.YtgbkjfhmbchiiaaM15
namespace Go.Proofs.Ytgbkjfhmbchiiaa
set_option linter.unusedVariables false
set_option linter.unusedSimpArgs false
open Go.RowKit

theorem RowS.fl {α : Type} {f : α → List Value} {t : TypeId} {m : Nat} {w wr : World} {g k K : Nat} {v : Value} (h : RowS f t m w wr g k K v) :
    ∃ (A : Option Addr) (c : Nat) (vs : List α), v = .slice A k c ∧ k ≤ c ∧ c ≤ maxLen ∧ Fl f wr w.heap.size wr.heap.size A k vs := by
  obtain ⟨vs, h1, h3, h4⟩ := h
  obtain ⟨A, c, rfl, hc, hm, hr⟩ := Rd.of_own h3
  exact ⟨A, c, vs, rfl, hc, hm, h1, hr.more (Nat.le_refl _) (Nat.le_refl _)⟩

theorem below_draw {C : Nat} {w wr w' : World} {g K : Nat} (hb : Below C w wr) (hd : DrawT wr w' g K) (hC : C ≤ g) (hs : C ≤ wr.heap.size) : Below C w w' :=
  hb.grown hd.1 hs (fun q hq => by injection hq with hq; omega)

/-- what is left behind the draw of values and updates -/
def DrawnR (w w' : World) (e : Ending) : Prop :=
  ∃ (A : Option Addr) (n c : Nat) (xs : List Int) (B : Option Addr) (m d : Nat) (us : List Upd), e = .returned (.tuple #[.slice A n c, .slice B m d]) ∧ n ≤ 4 ∧ n ≤ c ∧ c ≤ maxLen ∧ m ≤ 4 ∧ m ≤ d ∧ d ≤ maxLen ∧
    Ints w' w.heap.size w'.heap.size A n xs ∧ Fl cu w' w.heap.size w'.heap.size B m us ∧ Below w.heap.size w w'

end Go.Proofs.Ytgbkjfhmbchiiaa

namespace Go.Proofs.Ytgbkjfhmbchiiaa
set_option linter.unusedVariables false
set_option linter.unusedSimpArgs false
open Go.RowKit

set_option maxHeartbeats 400000 in
theorem sameInts_any (A A' : Option Addr) (n c c' : Nat) (xs : List Int) (w : World) (lo hi lo' hi' : Nat) (hn : n ≤ 9223372036854775807) (h : Ints w lo hi A n xs) (h' : Ints w lo' hi' A' n xs) :
    Calls Try.prog 19 #[.slice A n c, .slice A' n c'] w fun e w' => e = .returned (.bool true) ∧ ∃ m, w' = w.drewN m := by
  have HI := Lib.hid h
  have HJ := Lib.hid h'
  have hnn : (!((n : Int) == n)) = false := by simp
  clear h h'
  go_enter Try.func19, Try.ntmps19
  go_wp2
  go_loopw [5] (fun i wr => ∃ k : Nat, k ≤ n ∧ i = .int .i64 k ∧ ∃ m, wr = w.drewN m) (fun i _ => n - (intOf i).toNat)
  case atStart => exact ⟨0, Nat.zero_le _, rfl, 0, rfl⟩
  case round =>
    obtain ⟨k, hk, rfl, m, rfl⟩ := hrel
    by_cases hlt : k < n
    · obtain ⟨b, o, hl, rfl, _, _, hc⟩ := HI.out.int hlt
      obtain ⟨b', o', hl', rfl, _, _, hc'⟩ := HJ.out.int hlt
      have hd : (!(xs[k] == xs[k])) = false := by simp
      go_wp2
      go_quiet (fail)
      go_wp2
      exact ⟨⟨k + 1, by omega, by go_num, m + nq, rfl⟩, by simp [intOf]; omega⟩
    · have hkn : k = n := by omega
      subst hkn
      go_wp2
      go_ret
      exact ⟨rfl, m, rfl⟩

theorem applyL_short' (xs : List Int) (us : List Upd) : (applyL xs us).length ≤ xs.length := by
  unfold applyL
  split
  · split
    · rw [setR_len]; exact Nat.le_refl _
    · exact Nat.le_refl _
  · exact Nat.zero_le _

/-- an answer of RefsApply, read in new memory -/
def AnsR (xs : List Int) (us : List Upd) (w : World) (e : Ending) (w' : World) : Prop :=
  ∃ (A : Option Addr) (n c : Nat), e = .returned (.tuple #[.slice A n c, .bool (applyB xs us)]) ∧ n ≤ 4 ∧ n ≤ c ∧ c ≤ 9223372036854775807 ∧ Ints w' w.heap.size w'.heap.size A n (applyL xs us) ∧ Below w.heap.size w w'
theorem AnsR.of {xs : List Int} {us : List Upd} {w : World} {e : Ending} {w' : World} (hl : xs.length ≤ 4) (h : ApplyR xs us w e w') : AnsR xs us w e w' := by
  obtain ⟨t, v, h1, h2, rfl⟩ := h
  obtain ⟨A, c, rfl, hc, hm, hr⟩ := Rd.of_own h1
  exact ⟨A, _, c, rfl, Nat.le_trans (applyL_short' xs us) hl, hc, hm, ⟨rfl, hr⟩, h2⟩

end Go.Proofs.Ytgbkjfhmbchiiaa

namespace Go.Proofs.Ytgbkjfhmbchiiaa
set_option linter.unusedVariables false
set_option linter.unusedSimpArgs false
open Go.RowKit

/-- updates in new memory -/
def UpdR (us : List Upd) (w : World) (e : Ending) (w' : World) : Prop :=
  ∃ (B : Option Addr) (m d : Nat), e = .returned (.slice B m d) ∧ m ≤ 4 ∧ m ≤ d ∧ d ≤ 9223372036854775807 ∧ Fl cu w' w.heap.size w'.heap.size B m us ∧ Below w.heap.size w w'
theorem UpdR.of {us : List Upd} {w w' : World} {t : TypeId} {v : Value} (hl : us.length ≤ 4) (h : w'.ownsRow w.heap.size t 3 v us.length (us.flatMap cu)) (hb : Below w.heap.size w w') : UpdR us w (.returned v) w' := by
  obtain ⟨A, c, rfl, hc, hm, hr⟩ := Rd.of_own h
  exact ⟨A, _, c, rfl, hl, hc, hm, ⟨rfl, hr⟩, hb⟩

/-- the differences among the first k refs -/
def diffTo (f t : List Int) (k : Nat) : List Upd := (List.range k).flatMap (differAt f t)
theorem diffTo_succ (f t : List Int) (k : Nat) : diffTo f t (k + 1) = diffTo f t k ++ differAt f t k := by
  unfold diffTo
  rw [List.range_succ, List.flatMap_append]
  simp
theorem diffTo_len (f t : List Int) (k : Nat) : (diffTo f t k).length ≤ k := by
  induction k with
  | zero => simp [diffTo]
  | succ k ih =>
    rw [diffTo_succ, List.length_append]
    unfold differAt
    split <;> simp <;> omega
theorem diffTo_eq {f t : List Int} {k : Nat} (h : f.getD k 0 = t.getD k 0) : diffTo f t (k + 1) = diffTo f t k := by
  rw [diffTo_succ]; unfold differAt; rw [if_pos h, List.append_nil]
theorem diffTo_ne {f t : List Int} {k : Nat} (h : ¬ f.getD k 0 = t.getD k 0) : diffTo f t (k + 1) = diffTo f t k ++ [⟨k, f.getD k 0, t.getD k 0⟩] := by
  rw [diffTo_succ]; unfold differAt; rw [if_neg h]
theorem differL_ok {f t : List Int} (h1 : refsB f = true) (h2 : refsB t = true) : differL f t = diffTo f t 4 := by
  unfold differL diffTo; rw [if_pos ⟨h1, h2⟩]
theorem differL_no {f t : List Int} (h : refsB f = false ∨ refsB t = false) : differL f t = [] := by
  unfold differL
  rw [if_neg]
  rcases h with h | h <;> rw [h] <;> simp
theorem differL_len (f t : List Int) : (differL f t).length ≤ 4 := by
  unfold differL; split
  · exact diffTo_len f t 4
  · simp
theorem Fl.getD {w : World} {lo hi n : Nat} {A : Option Addr} {xs : List Int} (h : Ints w lo hi A n xs) {k : Nat} (hk : k < n) :
    ∃ b o x, A = some ⟨b, o, none⟩ ∧ lo ≤ b ∧ b < hi ∧ xs.getD k 0 = x ∧ w.cell? ⟨b, o + k, none⟩ = some (.int .i64 x) := by
  obtain ⟨b, o, hl, rfl, g1, g2, hc⟩ := h.int hk
  refine ⟨b, o, xs[k], rfl, g1, g2, ?_, hc⟩
  rw [List.getD_eq_getElem?_getD, List.getElem?_eq_getElem hl]; rfl

end Go.Proofs.Ytgbkjfhmbchiiaa

namespace Go.Proofs.Ytgbkjfhmbchiiaa
set_option linter.unusedVariables false
set_option linter.unusedSimpArgs false
open Go.RowKit

set_option maxRecDepth 100000 in
set_option maxHeartbeats 1600000 in
theorem specDiffer_any (A1 A2 : Option Addr) (n1 c1 n2 c2 : Nat) (f t : List Int) (w : World) (lo hi lo' hi' : Nat) (hh : hi ≤ w.heap.size) (hh' : hi' ≤ w.heap.size) (hn1 : n1 ≤ 4) (hn2 : n2 ≤ 4)
    (hf : Ints w lo hi A1 n1 f) (ht : Ints w lo' hi' A2 n2 t) :
    Calls Try.prog 42 #[.slice A1 n1 c1, .slice A2 n2 c2] w fun e w' => UpdR (differL f t) w e w' := by
  have HF := Lib.hid hf
  have HT := Lib.hid ht
  have hm1 : n1 ≤ 9223372036854775807 := by omega
  have hm2 : n2 ≤ 9223372036854775807 := by omega
  clear hf ht
  have HS0 : Hid ((w.alloc (.cells #[] 88)).ownsRow w.heap.size 88 3 (.slice (some ⟨w.heap.size, 0, none⟩) 0 0) 0 []) := own_nil_lit w _ 3
  go_enter Try.func42, Try.ntmps42
  go_wp2_with fail
  go_loopw [5, 6] (fun v i wr => ∃ k : Nat, k ≤ 4 ∧ i = .int .i64 k ∧ (0 < k → refsB f = true ∧ refsB t = true) ∧ wr.ownsRow w.heap.size 88 3 v (diffTo f t k).length ((diffTo f t k).flatMap cu) ∧ Below w.heap.size w wr) (fun _ i _ => 4 - (intOf i).toNat)
  case atStart => exact ⟨0, Nat.zero_le _, rfl, by simp, HS0.out, (Below.refl _ _).alloc (Nat.le_refl _) _⟩
  case round =>
    obtain ⟨k, hk, rfl, hv, hown, hbr⟩ := hrel
    have HV := Lib.hid hv
    have HO := Lib.hid hown
    have HB := Lib.hid hbr
    have HFW : Hid (Ints _ lo hi A1 n1 f) := HF.out.below HB.out hh
    have HTW : Hid (Ints _ lo' hi' A2 n2 t) := HT.out.below HB.out hh'
    have hwsz := hbr.size
    clear hv hown hbr HS0
    by_cases hlt : k < 4
    · rcases h1 : refsB f with _ | _
      · have hb := Lib.hid (differL_no (t := t) (.inl h1))
        have hk0 : k = 0 := by
          rcases Nat.eq_zero_or_pos k with h | h
          · exact h
          · have := (HV.out h).1; rw [h1] at this; cases this
        subst hk0
        go_wp2_with (go_at_call 61; refine (specRefs_any _ _ _ f _ _ _ hm1 HFW.out).mono ?_; rintro e w' ⟨rfl, rfl⟩)
        go_ret
        rw [hb.out]
        exact UpdR.of (by simp) HO.out HB.out
      · rcases h2 : refsB t with _ | _
        · have hb := Lib.hid (differL_no (f := f) (.inr h2))
          have hk0 : k = 0 := by
            rcases Nat.eq_zero_or_pos k with h | h
            · exact h
            · have := (HV.out h).2; rw [h2] at this; cases this
          subst hk0
          go_wp2_with fail
          refine (specRefs_any _ _ _ f _ _ _ hm1 HFW.out).mono ?_
          rintro e w1 ⟨rfl, rfl⟩
          rw [h1]
          go_wp2_with fail
          refine (specRefs_any _ _ _ t _ _ _ hm2 HTW.out).mono ?_
          rintro e w1 ⟨rfl, rfl⟩
          rw [h2]
          go_wp2_with fail
          go_ret
          rw [hb.out]
          exact UpdR.of (by simp) HO.out HB.out
        · have h41 : n1 = 4 := by rw [← HF.out.1]; exact ((refsB_iff f).1 h1).1
          have h42 : n2 = 4 := by rw [← HT.out.1]; exact ((refsB_iff t).1 h2).1
          subst h41 h42
          obtain ⟨b, o, fk, rfl, _, _, hfk, hc⟩ := Fl.getD HFW.out hlt
          obtain ⟨b', o', tk, rfl, _, _, htk, hc'⟩ := Fl.getD HTW.out hlt
          have hdl := diffTo_len f t k
          have HFK := Lib.hid hfk
          have HTK := Lib.hid htk
          clear hfk htk
          go_wp2_with fail
          refine (specRefs_any _ _ _ f _ _ _ hm1 HFW.out).mono ?_
          rintro e w1 ⟨rfl, rfl⟩
          rw [h1]
          go_wp2_with fail
          refine (specRefs_any _ _ _ t _ _ _ hm2 HTW.out).mono ?_
          rintro e w1 ⟨rfl, rfl⟩
          rw [h2]
          rcases Decidable.em (fk = tk) with he | he
          · have hE : Hid (diffTo f t (k + 1) = diffTo f t k) := diffTo_eq (by rw [HFK.out, HTK.out]; exact he)
            go_wp2_with fail
            go_quiet (fail)
            go_wp2_with fail
            exact ⟨⟨k + 1, by omega, by go_num, fun _ => ⟨trivial, trivial⟩, by rw [hE.out]; exact HO.out, below_drewN HB.out _⟩, by simp [intOf]; omega⟩
          · have hE : Hid (diffTo f t (k + 1) = diffTo f t k ++ [⟨k, fk, tk⟩]) := by rw [diffTo_ne (by rw [HFK.out, HTK.out]; exact he), HFK.out, HTK.out]; exact rfl
            go_wp2_with fail
            go_quiet (fail)
            go_wp2_with fail
            have HBN := Lib.hid (below_drewN HB.out (nq + 1))
            have hws : w.heap.size ≤ (wr.drewN (nq + 1)).heap.size := hwsz
            go_region_law (refine step_app Try.elUpd (HO.out.alloc _) (rd_new _ (cu ⟨k, fk, tk⟩) _) rfl (by simp [Value.oneCell', cu]) (by unfold maxLen; omega) (by omega) (by simp; omega) rfl rfl rfl rfl ?_; intro v' w6 hown6 hg6)
            all_goals go_wp2_with fail
            all_goals exact ⟨⟨k + 1, by omega, by go_num, fun _ => ⟨trivial, trivial⟩, by rw [hE.out, List.length_append, List.flatMap_append]; exact hown6, (HBN.out.alloc hws _).grown hg6 (by simp; omega) (fun q hq => (HO.out.lt q hq).1)⟩, by simp [intOf]; omega⟩
    · have hk4 : k = 4 := by omega
      subst hk4
      have hvv := HV.out (by omega)
      have hb := Lib.hid (differL_ok hvv.1 hvv.2)
      clear hvv
      go_wp2_with fail
      go_ret
      rw [hb.out]
      exact UpdR.of (diffTo_len f t 4) HO.out HB.out

end Go.Proofs.Ytgbkjfhmbchiiaa
