/-
  The walks of the reference's l1Sorted and l91Id: ids in order, each once; a drawn id. Condition: the reader's place is small.
-/
import Derived.Test.YtnaeglfochnikaaM3
import Derived.Test.YtnaeglfochnikaaTObject
import Derived.Test.YtnaeglfochnikaaM5
import Derived.Test.YtnaeglfochnikaaM6
namespace Go.Proofs.Ytnaeglfochnikaa
set_option linter.unusedVariables false
set_option linter.unusedSimpArgs false
open Go.RowKit

theorem own_blk {w : World} {base size n g : Nat} {e : TypeId} {v : Value} {cs : List Value} (h : w.ownsRow base e size v n cs) (hv : v.ownBlock = some g) : ∃ cur, w.heap[g]? = some (.cells cur e (0, 0)) := by
  rcases h.2 with ⟨rfl, _⟩ | ⟨g', cap, cur, rfl, hb, hh, _⟩
  · cases hv
  · have e1 : (Value.slice (some ⟨g', 0, none⟩) n cap).ownBlock = some g' := rfl
    rw [e1] at hv
    injection hv with hv
    subst hv
    exact ⟨cur, hh⟩
theorem own_row_at {w : World} {base n c size : Nat} {e : TypeId} {A : Option Addr} {cs : List Value} (h : w.ownsRow base e size (.slice A n c) n cs) (hn : 0 < n) : ∃ g, A = some ⟨g, 0, none⟩ ∧ base ≤ g ∧ g < w.heap.size := by
  have h0 := h
  rcases h.2 with ⟨h1, rfl⟩ | ⟨g, cap, cur, h1, h2, _⟩
  · injection h1 with _ h3 _; omega
  · injection h1 with h3 h4 h5
    subst h3
    exact ⟨g, rfl, h2, (h0.lt g rfl).2⟩
theorem own_nil_heap {W : World} {base g size : Nat} {e : TypeId} (h : W.heap[g]? = some (.cells #[] e (0, 0))) (hb : base ≤ g) : W.ownsRow base e size (.slice (some ⟨g, 0, none⟩) 0 0) 0 [] :=
  ⟨by simp, .inr ⟨g, 0, #[], rfl, hb, h, Nat.le_refl _, Nat.zero_le _, by simp, by simp⟩⟩
theorem OwnL.obj {w : World} {lo : Nat} {kind : Int} {links : List Int} {t : ByteArray} {v : Value} (ho : Own w lo (intsD links) v) (ht : t.size ≤ 9223372036854775807) : OwnL w lo (fObject ⟨kind, links, t⟩) [.int .i64 kind, v, .string t] := by
  obtain ⟨F, h1, h2, h3⟩ := ho
  refine ⟨F, h1, h2, ?_⟩
  have := D.ownL.cons (D.own.int w kind) (D.ownL.cons h3 (D.ownL.cons (D.own.str w ht) (D.ownL.nil w)))
  simpa [fObject] using this

/-- the ids below k that a list has, in order -/
def srtTo (xs : List Int) (k : Nat) : List Int := ((List.range k).map fun (i : Nat) => (i : Int)).filter fun i => hasB i xs
def srtL (xs : List Int) : List Int := srtTo xs 991
theorem srtTo_zero (xs : List Int) : srtTo xs 0 = [] := rfl
theorem srtTo_yes {xs : List Int} {k : Nat} (h : hasB k xs = true) : srtTo xs (k + 1) = srtTo xs k ++ [(k : Int)] := by
  unfold srtTo; rw [List.range_succ, List.map_append, List.filter_append]; simp [h]
theorem srtTo_no {xs : List Int} {k : Nat} (h : hasB k xs = false) : srtTo xs (k + 1) = srtTo xs k := by
  unfold srtTo; rw [List.range_succ, List.map_append, List.filter_append]; simp [h]
theorem srtTo_len (xs : List Int) (k : Nat) : (srtTo xs k).length ≤ k := by
  unfold srtTo
  have := List.length_filter_le (fun i => hasB i xs) ((List.range k).map fun (i : Nat) => (i : Int))
  simpa using this

set_option maxHeartbeats 800000 in
set_option maxRecDepth 100000 in
theorem l1Sorted_any (A : Option Addr) (n c : Nat) (xs : List Int) (w : World) (lo hi : Nat) (hh : hi ≤ w.heap.size) (hn : n ≤ 9223372036854775807) (h : Ints w lo hi A n xs) :
    Calls Try.prog 56 #[.slice A n c] w fun e w' => ∃ v, w'.ownsRow w.heap.size 3 1 v (srtL xs).length ((srtL xs).flatMap ci) ∧ Below w.heap.size w w' ∧ e = .returned v := by
  have HI := Lib.hid h
  have HNIL := Lib.hid (own_nil_lit w 3 1)
  clear h
  go_enter Try.func56, Try.ntmps56
  go_wp2_with fail
  go_loopw [3, 4] (fun v i wr => ∃ (k m : Nat), k ≤ 991 ∧ i = .int .i64 k ∧ m ≤ k ∧ Hid ((srtTo xs k).length = m) ∧ wr.ownsRow w.heap.size 3 1 v m ((srtTo xs k).flatMap ci) ∧ Below w.heap.size w wr) (fun _ i _ => 991 - (intOf i).toNat)
  case atStart => exact ⟨0, 0, by omega, rfl, Nat.le_refl _, rfl, HNIL.out, (Below.refl _ _).alloc (Nat.le_refl _) _⟩
  case round =>
    obtain ⟨k, m, hk, rfl, hmk, HL, hown, hb⟩ := hrel
    obtain ⟨A6, c6, rfl, hc61, hc62, -⟩ := Rd.of_own hown
    unfold maxLen at hc62
    have HO := Lib.hid hown
    have HB := Lib.hid hb
    have hwsz := hb.size
    clear hown hb
    by_cases hlt : k < 991
    · have hki : (k : Int) < 991 := by omega
      rcases hv : hasB k xs with _ | _
      · have HN := Lib.hid (srtTo_no hv)
        go_wp2_with fail
        refine (l1Has_any A n c xs k _ lo hi hn (HI.out.below HB.out hh)).mono ?_
        rintro e w1 ⟨rfl, rfl⟩
        rw [hv]
        go_wp2_with fail
        go_roundw
        case rel => exact ⟨k + 1, m, by omega, by go_num, by omega, by show _ = _; rw [HN.out]; exact HL.out, by rw [HN.out]; exact HO.out, HB.out⟩
        case measure => simp [intOf]; omega
      · have HN := Lib.hid (srtTo_yes hv)
        go_wp2_with fail
        refine (l1Has_any A n c xs k _ lo hi hn (HI.out.below HB.out hh)).mono ?_
        rintro e w1 ⟨rfl, rfl⟩
        rw [hv]
        go_wp2_with (at_builtin; go_must (refine wpList_app Try.elI (m := 1) (HO.out.alloc _) (rd_newn (n := wr.heap.size) rfl [.int .i64 (k : Int)] 3) rfl (by simp [Value.oneCell']) (by unfold maxLen; omega) (by omega) (by simp; omega) rfl rfl rfl rfl ?_); intro v2 w2 hown2 hg2; have HO2 := Lib.hid hown2; have HB2 := Lib.hid (below_app (HB.out.alloc hwsz _) (Nat.le_refl _) (by simp; omega) (HO.out.alloc _) hg2); clear hown2 hg2)
        go_roundw
        case rel => exact ⟨k + 1, m + 1, by omega, by go_num, by omega, by show _ = _; rw [HN.out, List.length_append, HL.out]; rfl, by rw [HN.out, List.flatMap_append]; exact HO2.out, HB2.out⟩
        case measure => simp [intOf]; omega
    · have hkn : k = 991 := by omega
      subst hkn
      go_wp2_with fail
      go_ret
      exact ⟨_, by unfold srtL; rw [HL.out]; exact HO.out, HB.out, rfl⟩

/-- a drawn id -/
def IdR (r : Int) : Prop := -1 ≤ r ∧ r ≤ 999

set_option maxHeartbeats 800000 in
set_option maxRecDepth 100000 in
theorem l91Id_any (g K : Nat) (w : World) (hK : K ≤ 1000000000 - 20) (h : Rdr w g K) :
    Calls Try.prog 57 #[.pointer (some ⟨g, 0, none⟩)] w fun e w' => ∃ r, IdR r ∧ DrawT w w' g (K + 4) ∧ e = .returned (.int .i64 r) := by
  have HR := Lib.hid (DrawT.refl h)
  clear h
  go_enter Try.func57, Try.ntmps57
  go_wp2_with fail
  refine (pick_any g K 30 _ (by omega) HR.out.2).mono ?_
  rintro e w1 ⟨r1, hr1, hR1, hg1, -, rfl⟩
  have HS1 := Lib.hid (HR.out.step hg1 hR1)
  clear hR1 hg1 hr1 HR
  by_cases h0 : r1 = 0
  · have hd : (r1 == 0) = true := by simp [h0]
    clear h0
    go_wp2_with fail
    refine (pick_any g (K + 1) 3 _ (by omega) (HS1.out.alloc _).2).mono ?_
    rintro e w2 ⟨r2, hr2, hR2, hg2, hsz2, rfl⟩
    obtain ⟨q2, rfl⟩ := Int.eq_ofNat_of_zero_le hr2.1
    have hq2 := hr2.2 (by omega)
    have HS2 := Lib.hid ((HS1.out.alloc _).step hg2 hR2)
    have hgl := HS1.out.2.lt
    have hrow : w2.heap[w1.heap.size]? = some (.cells #[.int .i64 (-1), .int .i64 990, .int .i64 991] 3 (0, 0)) := (hg2.block _ (by simp) (fun e => by injection e with e; omega)).trans (heap_alloc_new w1 _)
    clear hR2 hg2 hr2
    have hq3 : q2 < 3 := by omega
    have hcl : ∃ x : Int, IdR x ∧ w2.cell? ⟨w1.heap.size, q2, none⟩ = some (.int .i64 x) := by
      rcases q2 with _ | _ | _ | q2
      · exact ⟨_, ⟨by omega, by omega⟩, cell_of_row _ _ 0 _ _ _ hrow⟩
      · exact ⟨_, ⟨by omega, by omega⟩, cell_of_row _ _ 1 _ _ _ hrow⟩
      · exact ⟨_, ⟨by omega, by omega⟩, cell_of_row _ _ 2 _ _ _ hrow⟩
      · omega
    obtain ⟨x, hx, hc⟩ := hcl
    have HX := Lib.hid hx
    clear hrow hx
    go_wp2_with fail
    go_ret
    exact ⟨x, HX.out, HS2.out.more (by omega), rfl⟩
  · have hd : (r1 == 0) = false := by simp [h0]
    clear h0
    go_wp2_with fail
    refine (pick_any g (K + 1) 99 _ (by omega) HS1.out.2).mono ?_
    rintro e w2 ⟨r2, hr2, hR2, hg2, -, rfl⟩
    have HS2 := Lib.hid (HS1.out.step hg2 hR2)
    have hr21 := hr2.1
    have hr22 := hr2.2 (by omega)
    clear hR2 hg2 hr2
    go_wp2_with fail
    refine (pick_any g (K + 2) 10 _ (by omega) HS2.out.2).mono ?_
    rintro e w3 ⟨r3, hr3, hR3, hg3, -, rfl⟩
    have HS3 := Lib.hid (HS2.out.step hg3 hR3)
    have hr31 := hr3.1
    have hr32 := hr3.2 (by omega)
    clear hR3 hg3 hr3
    go_wp2_with fail
    go_ret
    exact ⟨_, ⟨by omega, by omega⟩, HS3.out.more (by omega), rfl⟩

end Go.Proofs.Ytnaeglfochnikaa
