/-
  The walks of RefsDiffer, of the program and of the reference: the updates that lead from one to the other, in new memory. Condition: at most four refs each.
-/
import Derived.Test.YtfdcoeghomeadaaSame
import Derived.Test.YtfdcoeghomeadaaRefsD
import Derived.Test.YtfdcoeghomeadaaStep
namespace Go.Proofs.Ytfdcoeghomeadaa
open Go.RowKit

/-- updates in new memory -/
def UpdR (us : List Upd) (w : World) (e : Ending) (w' : World) : Prop :=
  ∃ (B : Option Addr) (m d : Nat), e = .returned (.slice B m d) ∧ m ≤ 4 ∧ m ≤ d ∧ d ≤ 9223372036854775807 ∧ Fl cu w' w.heap.size w'.heap.size B m us ∧ Below w.heap.size w w'
theorem UpdR.of {us : List Upd} {w w' : World} {t : TypeId} {v : Value} (hl : us.length ≤ 4) (h : w'.ownsRow w.heap.size t 3 v us.length (us.flatMap cu)) (hb : Below w.heap.size w w') : UpdR us w (.returned v) w' := by
  obtain ⟨A, c, rfl, hc, hm, hr⟩ := Rd.of_own h
  exact ⟨A, _, c, rfl, hl, hc, hm, ⟨rfl, hr⟩, hb⟩

/-- the differences among the first k refs -/
def diffTo (f t : List Int) (k : Nat) : List Upd := (List.range k).flatMap (differAt f t)
theorem diffTo_succ (f t : List Int) (k : Nat) : diffTo f t (k + 1) = diffTo f t k ++ differAt f t k := by
  unfold diffTo
  rw [List.range_succ, List.flatMap_append]
  simp
theorem diffTo_len (f t : List Int) (k : Nat) : (diffTo f t k).length ≤ k := by
  induction k with
  | zero => simp [diffTo]
  | succ k ih =>
    rw [diffTo_succ, List.length_append]
    unfold differAt
    split <;> simp <;> omega
theorem diffTo_eq {f t : List Int} {k : Nat} (h : f.getD k 0 = t.getD k 0) : diffTo f t (k + 1) = diffTo f t k := by
  rw [diffTo_succ]; unfold differAt; rw [if_pos h, List.append_nil]
theorem diffTo_ne {f t : List Int} {k : Nat} (h : ¬ f.getD k 0 = t.getD k 0) : diffTo f t (k + 1) = diffTo f t k ++ [⟨k, f.getD k 0, t.getD k 0⟩] := by
  rw [diffTo_succ]; unfold differAt; rw [if_neg h]
theorem differL_ok {f t : List Int} (h1 : refsB f = true) (h2 : refsB t = true) : differL f t = diffTo f t 4 := by
  unfold differL diffTo; rw [if_pos ⟨h1, h2⟩]
theorem differL_no {f t : List Int} (h : refsB f = false ∨ refsB t = false) : differL f t = [] := by
  unfold differL
  rw [if_neg]
  rcases h with h | h <;> rw [h] <;> simp
theorem differL_len (f t : List Int) : (differL f t).length ≤ 4 := by
  unfold differL; split
  · exact diffTo_len f t 4
  · simp
theorem Fl.getD {w : World} {lo hi n : Nat} {A : Option Addr} {xs : List Int} (h : Ints w lo hi A n xs) {k : Nat} (hk : k < n) :
    ∃ b o x, A = some ⟨b, o, none⟩ ∧ lo ≤ b ∧ b < hi ∧ xs.getD k 0 = x ∧ w.cell? ⟨b, o + k, none⟩ = some (.int .i64 x) := by
  obtain ⟨b, o, hl, rfl, g1, g2, hc⟩ := h.int hk
  refine ⟨b, o, xs[k], rfl, g1, g2, ?_, hc⟩
  rw [List.getD_eq_getElem?_getD, List.getElem?_eq_getElem hl]; rfl

set_option maxRecDepth 100000 in
set_option maxHeartbeats 1600000 in
theorem implDiffer_any (A1 A2 : Option Addr) (n1 c1 n2 c2 : Nat) (f t : List Int) (w : World) (lo hi lo' hi' : Nat) (hh : hi ≤ w.heap.size) (hh' : hi' ≤ w.heap.size) (hn1 : n1 ≤ 4) (hn2 : n2 ≤ 4)
    (hf : Ints w lo hi A1 n1 f) (ht : Ints w lo' hi' A2 n2 t) :
    Calls Try.prog 13 #[.slice A1 n1 c1, .slice A2 n2 c2] w fun e w' => UpdR (differL f t) w e w' := by
  have HF := Lib.hid hf
  have HT := Lib.hid ht
  have hm1 : n1 ≤ 9223372036854775807 := by omega
  have hm2 : n2 ≤ 9223372036854775807 := by omega
  clear hf ht
  rcases h1 : refsB f with _ | _
  · have hb := Lib.hid (differL_no (t := t) (.inl h1))
    go_enter Try.func13, Try.ntmps13
    go_wp2_with (go_at_call 22; refine (implRefs_any _ _ _ f _ _ _ hm1 HF.out).mono ?_; rintro e w' ⟨rfl, rfl⟩)
    go_ret
    rw [hb.out]
    exact ⟨none, 0, 0, rfl, by omega, by omega, by omega, Fl.nil _ _ _ _ _, Below.refl _ _⟩
  · rcases h2 : refsB t with _ | _
    · have hb := Lib.hid (differL_no (f := f) (.inr h2))
      go_enter Try.func13, Try.ntmps13
      go_wp2_with fail
      refine (implRefs_any _ _ _ f _ _ _ hm1 HF.out).mono ?_
      rintro e w1 ⟨rfl, rfl⟩
      rw [h1]
      go_wp2_with fail
      refine (implRefs_any _ _ _ t _ _ _ hm2 HT.out).mono ?_
      rintro e w1 ⟨rfl, rfl⟩
      rw [h2]
      go_wp2_with fail
      go_ret
      rw [hb.out]
      exact ⟨none, 0, 0, rfl, by omega, by omega, by omega, Fl.nil _ _ _ _ _, Below.refl _ _⟩
    · have hb := Lib.hid (differL_ok h1 h2)
      have h41 : n1 = 4 := by rw [← HF.out.1]; exact ((refsB_iff f).1 h1).1
      have h42 : n2 = 4 := by rw [← HT.out.1]; exact ((refsB_iff t).1 h2).1
      subst h41 h42
      go_enter Try.func13, Try.ntmps13
      go_wp2_with fail
      refine (implRefs_any _ _ _ f _ _ _ hm1 HF.out).mono ?_
      rintro e w1 ⟨rfl, rfl⟩
      rw [h1]
      go_wp2_with fail
      refine (implRefs_any _ _ _ t _ _ _ hm2 HT.out).mono ?_
      rintro e w1 ⟨rfl, rfl⟩
      rw [h2]
      go_wp2_with fail
      go_loopw [5, 18] (fun v i wr => ∃ k : Nat, k ≤ 4 ∧ i = .int .i64 k ∧ wr.ownsRow w.heap.size 38 3 v (diffTo f t k).length ((diffTo f t k).flatMap cu) ∧ Below w.heap.size w wr) (fun _ i _ => 4 - (intOf i).toNat)
      case atStart => exact ⟨0, Nat.zero_le _, rfl, by rw [show diffTo f t 0 = [] from rfl]; exact World.ownsRow_nil _ _ _ _, Below.refl _ _⟩
      case round =>
        obtain ⟨k, hk, rfl, hown, hbr⟩ := hrel
        have HO := Lib.hid hown
        have HB := Lib.hid hbr
        have hwsz := hbr.size
        clear hown hbr
        by_cases hlt : k < 4
        · obtain ⟨b, o, fk, rfl, _, _, hfk, hc⟩ := Fl.getD (HF.out.below HB.out hh) hlt
          obtain ⟨b', o', tk, rfl, _, _, htk, hc'⟩ := Fl.getD (HT.out.below HB.out hh') hlt
          have hdl := diffTo_len f t k
          have HFK := Lib.hid hfk
          have HTK := Lib.hid htk
          clear hfk htk
          rcases Decidable.em (fk = tk) with he | he
          · have hE : Hid (diffTo f t (k + 1) = diffTo f t k) := diffTo_eq (by rw [HFK.out, HTK.out]; exact he)
            go_wp2_with fail
            exact ⟨⟨k + 1, by omega, by go_num, by rw [hE.out]; exact HO.out, HB.out⟩, by simp [intOf]; omega⟩
          · have hE : Hid (diffTo f t (k + 1) = diffTo f t k ++ [⟨k, fk, tk⟩]) := by rw [diffTo_ne (by rw [HFK.out, HTK.out]; exact he), HFK.out, HTK.out]; exact rfl
            go_wp2_with (at_builtin; go_must (refine wpList_app Try.elUpd (HO.out.alloc _) (rd_new _ (cu ⟨k, fk, tk⟩) _) rfl (by simp [Value.oneCell', cu]) (by unfold maxLen; omega) (by omega) (by simp; omega) rfl rfl rfl rfl ?_); intro v' w6 hown6 hg6)
            exact ⟨⟨k + 1, by omega, by go_num, by rw [hE.out, List.length_append, List.flatMap_append]; exact hown6, (HB.out.alloc hwsz _).grown hg6 (by simp; omega) (fun q hq => (HO.out.lt q hq).1)⟩, by simp [intOf]; omega⟩
        · have hk4 : k = 4 := by omega
          subst hk4
          go_wp2_with fail
          go_ret
          rw [hb.out]
          exact UpdR.of (diffTo_len f t 4) HO.out HB.out

end Go.Proofs.Ytfdcoeghomeadaa
