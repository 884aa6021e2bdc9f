/-
  The draw of a store and of two lists of ids. No condition.
  The walks of the laws' sameInts of two rows that read alike, and of the laws' ascending. Condition: lengths fit an int64.
  The walks of the program's StoreReach and StoreMissing: what is reached and stored, and what is reached and not stored. Condition: few ids to begin with.
  The walk of the laws' ascending, for all rows of numbers. Condition: lengths fit an int64.
-/
import Derived.Test.YtnaeglfochnikaaGreatStoD9
import Derived.Test.YtnaeglfochnikaaGreatIdsD
import Derived.Test.YtnaeglfochnikaaGreatZ7
import Derived.Deep.QuietTactic
import Derived.BigQuiet
import Derived.Test.YtnaeglfochnikaaGreatZ10
import Derived.Deep.RegionHeldLaw
import Derived.Test.YtnaeglfochnikaaGreatZ1
namespace Go.Proofs.YtnaeglfochnikaaGreat
set_option linter.unusedVariables false
set_option linter.unusedSimpArgs false
open Go.RowKit

/-- a store and two lists of ids that have been drawn -/
def DrawnF (w : World) (e : Ending) (w' : World) : Prop :=
  ∃ (os : List ObjD) (ws hs : List Int) (A : Option Addr) (n c : Nat) (F : Option Addr) (m d : Nat) (G : Option Addr) (k e9 : Nat), D.rd w' w.heap.size w'.heap.size (dObjects os) (.slice A n c) ∧ D.rd w' w.heap.size w'.heap.size (intsD ws) (.slice F m d) ∧ D.rd w' w.heap.size w'.heap.size (intsD hs) (.slice G k e9) ∧
    n ≤ 17 ∧ m ≤ 1000 ∧ k ≤ 1000 ∧ (∀ o ∈ os, objB o = true) ∧ Below w.heap.size w w' ∧ e = .returned (.tuple #[.slice A n c, .slice F m d, .slice G k e9])
set_option maxHeartbeats 3200000 in
set_option maxRecDepth 100000 in
theorem drawFet_any (A : Option Addr) (n c : Nat) (zs : List Int) (w : World) (h : IsRow .u8 w A n c zs) :
    Calls Tryz.prog 17 #[.slice A n c] w fun e w' => DrawnF w e w' := by
  have HI := Lib.hid h
  clear h
  go_enter Tryz.func17, Tryz.ntmps17
  go_wp2_with fail
  refine (l6Open_any _ _ _ zs _ HI.out).mono ?_
  rintro e w2 ⟨hR2, hb2, hs2, he⟩
  obtain ⟨g, hg⟩ : ∃ g, g = w.heap.size := ⟨_, rfl⟩
  rw [← hg] at hR2 he
  subst he
  have HR2 := Lib.hid hR2
  have HB2 := Lib.hid hb2
  have hgw : w.heap.size ≤ g := by omega
  have hgw2 : g < w2.heap.size := hR2.lt
  clear hR2 hb2 hs2 hg
  go_wp2_with fail
  refine (l91Spoilt_any g 0 w2 (by omega) HR2.out).mono ?_
  rintro e w3 ⟨os, A3, n3, c3, ho3, hn3, hv3, hd3, rfl⟩
  have HO3 := Lib.hid ho3
  have HV3 := Lib.hid hv3
  have HD3 := Lib.hid hd3
  have hs3 := hd3.1.size
  have HB3 := Lib.hid (HB2.out.grown hd3.1 (by omega) (fun q e => by injection e with e; omega))
  clear ho3 hv3 hd3
  go_wp2_with fail
  refine (l91Ids_any g (0 + 4510) os A3 n3 c3 w3 w2.heap.size w3.heap.size (by omega) (Nat.le_refl _) (.inl hgw2) (by omega) HV3.out HO3.out HD3.out.2).mono ?_
  rintro e w4 ⟨ws, F, m, d, hf4, hl4, hd4, rfl⟩
  have hm4 : m ≤ 1000 := by have h := hf4.len.1; omega
  have HF4 := Lib.hid hf4
  have HD4 := Lib.hid (HD3.out.tr hd4)
  have HO4 := Lib.hid (HO3.out.grown hd4.1 (Nat.le_refl _) (fun q e => by injection e with e; omega))
  have hs4 := hd4.1.size
  have HB4 := Lib.hid (HB3.out.grown hd4.1 (by omega) (fun q e => by injection e with e; omega))
  clear hf4 hd4 hl4
  go_upto_region 4 with (fail)
  have hh4 : w3.heap.size ≤ w4.heap.size := hs4
  go_wp2_with fail
  refine (l91Ids_any g (0 + 4510 + 12) os A3 n3 c3 w4 w2.heap.size w3.heap.size (by omega) hh4 (.inl hgw2) (by omega) HV3.out HO4.out HD4.out.2).mono ?_
  rintro e w5 ⟨hs, G, k, e9, hf5, hl5, hd5, rfl⟩
  have hk5 : k ≤ 1000 := by have h := hf5.len.1; omega
  have HF5 := Lib.hid hf5
  have HG5 := Lib.hid (HF4.out.grown hd5.1 (Nat.le_refl _) (fun q e => by injection e with e; omega))
  have HO5 := Lib.hid (HO4.out.grown hd5.1 hh4 (fun q e => by injection e with e; omega))
  have hs5 := hd5.1.size
  have HB5 := Lib.hid (HB4.out.grown hd5.1 (by omega) (fun q e => by injection e with e; omega))
  clear hf5 hd5 hl5
  go_wp2_with fail
  refine bodyPost_ret (v := .tuple #[.slice A3 n3 c3, .slice F m d, .slice G k e9]) (by simp [results, Tryz.results17, go_sem]) rfl ?_
  exact ⟨os, ws, hs, A3, n3, c3, F, m, d, G, k, e9, HO5.out.more (by omega) (by omega), HG5.out.more (by omega) (by omega), HF5.out.more (by omega) (Nat.le_refl _), hn3, hm4, hk5, HV3.out, HB5.out, rfl⟩

end Go.Proofs.YtnaeglfochnikaaGreat

namespace Go.Proofs.YtnaeglfochnikaaGreat
set_option linter.unusedVariables false
set_option linter.unusedSimpArgs false
open Go.RowKit

theorem bel_drewQ (w : World) (q : Nat) : Below w.heap.size w (w.drewN q) := ⟨rfl, rfl, rfl, Nat.le_refl _, fun _ _ => rfl⟩
set_option maxHeartbeats 400000 in
theorem sameInts_any (A A' : Option Addr) (n c c' : Nat) (xs : List Int) (w : World) (lo hi lo' hi' : Nat) (hn : n ≤ 9223372036854775807) (h : Ints w lo hi A n xs) (h' : Ints w lo' hi' A' n xs) :
    Calls Tryz.prog 20 #[.slice A n c, .slice A' n c'] w fun e w' => e = .returned (.bool true) ∧ ∃ m, w' = w.drewN m := by
  have HI := Lib.hid h
  have HJ := Lib.hid h'
  have hnn : (!((n : Int) == n)) = false := by simp
  clear h h'
  go_enter Tryz.func20, Tryz.ntmps20
  go_wp2
  go_loopw [5] (fun i wr => ∃ k : Nat, k ≤ n ∧ i = .int .i64 k ∧ ∃ m, wr = w.drewN m) (fun i _ => n - (intOf i).toNat)
  case atStart => exact ⟨0, Nat.zero_le _, rfl, 0, rfl⟩
  case round =>
    obtain ⟨k, hk, rfl, m, rfl⟩ := hrel
    by_cases hlt : k < n
    · obtain ⟨b, o, hl, rfl, _, _, hc⟩ := HI.out.int hlt
      obtain ⟨b', o', hl', rfl, _, _, hc'⟩ := HJ.out.int hlt
      have hd : (!(xs[k] == xs[k])) = false := by simp
      go_wp2
      go_quiet (fail)
      go_wp2
      exact ⟨⟨k + 1, by omega, by go_num, m + nq, rfl⟩, by simp [intOf]; omega⟩
    · have hkn : k = n := by omega
      subst hkn
      go_wp2
      go_ret
      exact ⟨rfl, m, rfl⟩

set_option maxHeartbeats 400000 in
theorem ascending_any (A : Option Addr) (n c : Nat) (xs : List Int) (w : World) (lo hi : Nat) (hn : n ≤ 1048576) (h : Ints w lo hi A n xs) (hp : xs.Pairwise (· < ·)) :
    Calls Tryz.prog 22 #[.slice A n c] w fun e w' => e = .returned (.bool true) ∧ ∃ m, w' = w.drewN m := by
  have HI := Lib.hid h
  have HP := Lib.hid hp
  clear h hp
  go_enter Tryz.func22, Tryz.ntmps22
  go_wp2
  go_loopw [3] (fun i wr => ∃ k : Nat, 1 ≤ k ∧ i = .int .i64 k ∧ ∃ m, wr = w.drewN m) (fun i _ => n + 1 - (intOf i).toNat)
  case atStart => exact ⟨1, Nat.le_refl _, rfl, 0, rfl⟩
  case round =>
    obtain ⟨k, hk, rfl, m, rfl⟩ := hrel
    by_cases hlt : k < n
    · obtain ⟨b, o, hl, rfl, _, _, hc⟩ := HI.out.int hlt
      obtain ⟨b', o', hl', he, _, _, hc'⟩ := HI.out.int (k := k - 1) (by omega)
      injection he with he
      injection he with he1 he2
      subst he1 he2
      have hxy : xs[k - 1] < xs[k] := (List.pairwise_iff_getElem.1 HP.out) (k - 1) k hl' hl (by omega)
      obtain ⟨x, hx⟩ : ∃ x, x = xs[k - 1] := ⟨_, rfl⟩
      obtain ⟨y, hy⟩ : ∃ y, y = xs[k] := ⟨_, rfl⟩
      rw [← hx] at hc' hxy
      rw [← hy] at hc hxy
      have hd : decide (y ≤ x) = false := by simp; omega
      have hd2 : ¬ (y ≤ x) := by omega
      have hx1 : (0 : Int) ≤ (k : Int) - 1 := by omega
      have hx2 : (k : Int) - 1 < (n : Int) := by omega
      have hx3 : ((k : Int) - 1).toNat = k - 1 := by omega
      have hx4 : (1 : Int) ≤ (k : Int) := by omega
      have hx5 : (k : Int) < (n : Int) + 1 := by omega
      have hx6 : IntKind.i64.wrap ((k : Int) - 1) = (k : Int) - 1 := by rw [IntKind.wrap_i64]; omega
      clear hx hy
      go_wp2
      go_quiet (fail)
      go_wp2
      exact ⟨⟨k + 1, by omega, by go_num, m + nq, rfl⟩, by simp [intOf]; omega⟩
    · go_wp2
      go_ret
      exact ⟨rfl, m, rfl⟩

end Go.Proofs.YtnaeglfochnikaaGreat

namespace Go.Proofs.YtnaeglfochnikaaGreat
set_option linter.unusedVariables false
set_option linter.unusedSimpArgs false
open Go.RowKit

/-- ids are handed back, or nil -/
def MisR (w : World) (ys : List Int) (e : Ending) (w' : World) : Prop :=
  ∃ A c, D.rd w' w.heap.size w'.heap.size (intsD ys) (.slice A ys.length c) ∧ Below w.heap.size w w' ∧ e = .returned (.slice A ys.length c)
theorem MisR.of_own {w w' : World} {ys : List Int} {v : Value} (h : w'.ownsRow w.heap.size 3 1 v ys.length (ys.flatMap ci)) (hb : Below w.heap.size w w') : MisR w ys (.returned v) w' := by
  obtain ⟨A, c, e, -⟩ := Rd.of_own h
  subst e
  exact ⟨A, c, (own_ints h).rd, hb, rfl⟩
theorem MisR.nil {w w' : World} {ys : List Int} (hy : ys = []) (hb : Below w.heap.size w w') : MisR w ys (.returned (.slice none 0 0)) w' := by
  subst hy
  exact MisR.of_own (World.ownsRow_nil w' w.heap.size _ 1) hb
theorem MisR.of_out {w w' : World} {ys : List Int} {v : Value} {e : Ending} (h : w'.ownsRow w.heap.size 3 1 v ys.length (ys.flatMap ci)) (hb : Below w.heap.size w w') (he : e = .returned v) : MisR w ys e w' := by
  subst he; exact MisR.of_own h hb

open Classical in
/-- what StoreMissing answers -/
noncomputable def stoMis (os : List ObjD) (frm : List Int) : List Int := if storeB os = true ∧ linksB frm = true then misL (getO os) frm else []
theorem stoMis_yes {os : List ObjD} {frm : List Int} (h1 : storeB os = true) (h2 : linksB frm = true) : stoMis os frm = misL (getO os) frm := by unfold stoMis; rw [if_pos ⟨h1, h2⟩]
theorem stoMis_no {os : List ObjD} {frm : List Int} (h : storeB os = false ∨ linksB frm = false) : stoMis os frm = [] := by
  unfold stoMis
  rw [if_neg]
  rintro ⟨h1, h2⟩
  rcases h with h | h
  · rw [h] at h1; cases h1
  · rw [h] at h2; cases h2
set_option maxRecDepth 100000 in
set_option maxHeartbeats 3200000 in
theorem implStoMissing_any (os : List ObjD) (frm : List Int) (A : Option Addr) (n c : Nat) (F : Option Addr) (m d : Nat) (w : World) (lo hi lo' hi' : Nat) (hh : hi ≤ w.heap.size) (hh' : hi' ≤ w.heap.size) (hm : m ≤ 1000) (h : D.rd w lo hi (dObjects os) (.slice A n c)) (hf : D.rd w lo' hi' (intsD frm) (.slice F m d)) :
    Calls Tryz.prog 23 #[.slice A n c, .slice F m d] w fun e w' => MisR w (stoMis os frm) e w' := by
  have HI := Lib.hid h
  have HF := Lib.hid hf.ints
  have HN := Lib.hid h.len.1
  have hrow0 := Lib.hid (World.ownsRow_nil w w.heap.size 3 1)
  clear h hf
  go_enter Tryz.func23, Tryz.ntmps23
  go_wp2_with fail
  refine (implStoreValid_any os A n c w lo hi hh HI.out).mono ?_
  rintro e w1 ⟨rfl, hb1⟩
  have HB1 := Lib.hid hb1
  have HI1 := Lib.hid (HI.out.below hb1 hh)
  have HF1 := Lib.hid (HF.out.1)
  have HF2 := Lib.hid (HF.out.2.below hb1 hh')
  have hs1 := hb1.size
  have hfl : frm.length = m := HF.out.1
  clear hb1
  rcases hsv : storeB os with _ | _
  · have HSN := Lib.hid hsv
    go_wp2_with fail
    go_ret
    exact MisR.nil (stoMis_no (.inl HSN.out)) HB1.out
  · have HSV := Lib.hid hsv
    go_wp2_with fail
    refine (idsOk_any F m d frm w1 lo' hi' (by omega) ⟨hfl, HF2.out⟩).mono ?_
    rintro e w2 ⟨rfl, rfl⟩
    rcases hlb : linksB frm with _ | _
    · have HLN := Lib.hid hlb
      go_wp2_with fail
      go_ret
      exact MisR.nil (stoMis_no (.inr HLN.out)) HB1.out
    · have HLB := Lib.hid hlb
      go_wp2_with fail
      obtain ⟨p, hp⟩ : ∃ z, z = w1.heap.size := ⟨_, rfl⟩
      obtain ⟨w2, hw2⟩ : ∃ z, z = w1.alloc (.cells #[.slice A n c] 28) := ⟨_, rfl⟩
      have hb2 : Below w1.heap.size w1 w2 := by rw [hw2]; exact (Below.refl _ _).alloc (Nat.le_refl _) _
      have hx2 : w2.heap[p]? = some (.cells #[.slice A n c] 28 (0, 0)) := by rw [hw2, hp]; exact heap_alloc_new w1 _
      have hr2 := HI1.out.below hb2 (Nat.le_trans hh hs1)
      have HF3 := Lib.hid (HF2.out.below hb2 (Nat.le_trans hh' hs1))
      have hs2 := hb2.size
      have HB2 := Lib.hid (bel_tr HB1.out (Nat.le_refl _) hb2)
      obtain ⟨s1, s2, s3⟩ := (storeB_iff _).1 HSV.out
      have hk0 : w2.cell? ⟨p, 0, none⟩ = some (.slice A n c) := cell_of_row _ _ _ _ _ _ hx2
      have hcx : ∀ (j : Nat) (h : j < 1), w2.cell? ⟨p, j, none⟩ = some (.slice A n c) := fun j h => by
        obtain rfl : j = 0 := by omega
        exact hk0
      rw [← hw2, ← hp]
      refine (byId_any 1 p 1 (fun _ => A) (fun _ => n) (fun _ => c) (fun _ => os) (by omega) w2 lo hi (by omega) (hltS hx2) (fun _ => s1) (fun _ => by omega) (fun _ => hr2) hcx).mono ?_
      rintro e w3 ⟨rfl, hom, hb3⟩
      rw [byL_one (fun _ => os) s2] at hom
      have HOM := Lib.hid hom
      have HF4 := Lib.hid (HF3.out.below hb3 (by omega))
      have HB3 := Lib.hid (bel_tr HB2.out (Nat.le_refl _) hb3)
      have hs3 := hb3.size
      have hbl : w2.heap.size < w3.heap.size := by obtain ⟨_, _, h1, _⟩ := hom; exact h1.lt
      obtain ⟨b, hbb⟩ : ∃ z, z = w2.heap.size := ⟨_, rfl⟩
      rw [← hbb] at HOM hbl
      rw [← hbb]
      have hrng := idsB_mem (linksB_and HLB.out).1
      have HV := Lib.hid (fun (i : Int) (o : ObjD) (h : getO os i = some o) => s1 o (getO_some h).1)
      clear hb2 hx2 hr2 hw2 hp hk0 hcx hom hb3 hbb s1 s2
      go_wp2_with fail
      refine (reach_any (getO os) frm b F m d w3 lo hi lo' hi' (by omega) (by omega) hbl HV.out (by omega) hrng HOM.out ⟨hfl, HF4.out⟩).mono ?_
      rintro e w4 ⟨vs, vm, st, ms, hW, hos, hom, -, hb4, rfl⟩
      obtain ⟨e1, -, e2, -⟩ := reach_mis hW
      rw [e1, e2] at hom
      have HO4 := Lib.hid (own_low hom HB3.out.size)
      have HB4 := Lib.hid (bel_tr HB3.out (Nat.le_refl _) hb4)
      clear hos hom hb4 e1 e2 hW
      go_wp2_with fail
      go_ret
      rw [stoMis_yes HSV.out HLB.out]
      exact MisR.of_own HO4.out HB4.out


end Go.Proofs.YtnaeglfochnikaaGreat

namespace Go.Proofs.YtnaeglfochnikaaGreat
set_option linter.unusedVariables false
set_option linter.unusedSimpArgs false
open Go.RowKit

/-- number k is greater than the one before -/
def ascAt (xs : List Int) (k : Nat) : Bool := decide (k = 0) || decide (xs.getD (k - 1) 0 < xs.getD k 0)
def ascB (xs : List Int) : Bool := allTo (ascAt xs) xs.length
theorem links_asc {xs : List Int} (h : ascB xs = false) : linksB xs = false := by
  rcases hl : linksB xs with _ | _
  · rfl
  · unfold linksB at hl
    rw [Bool.and_eq_true] at hl
    have h1 := hl.1
    unfold idsB at h1
    rw [allTo_iff] at h1
    have h2 : ascB xs = true := (allTo_iff _ _).2 fun k hk => by
      have h3 := h1 k hk
      unfold idAt at h3
      rw [Bool.and_eq_true] at h3
      exact h3.2
    rw [h] at h2; cases h2
theorem ascAt_pos {xs : List Int} {k : Nat} (hk : k < xs.length) (h1 : 1 ≤ k) : ascAt xs k = decide (xs[k - 1] < xs[k]) := by
  unfold ascAt
  rw [decide_eq_false (by omega), Bool.false_or, List.getD_eq_getElem?_getD, List.getD_eq_getElem?_getD, List.getElem?_eq_getElem hk, List.getElem?_eq_getElem (show k - 1 < xs.length by omega)]
  rfl
set_option maxHeartbeats 800000 in
theorem ascG_any (A : Option Addr) (n c : Nat) (xs : List Int) (w : World) (lo hi : Nat) (hn : n ≤ 1048576) (h : Ints w lo hi A n xs) :
    Calls Tryz.prog 22 #[.slice A n c] w fun e w' => e = .returned (.bool (ascB xs)) ∧ ∃ m, w' = w.drewN m := by
  have HI := Lib.hid h
  clear h
  go_enter Tryz.func22, Tryz.ntmps22
  go_wp2
  go_loopw [3] (fun i wr => ∃ k : Nat, 1 ≤ k ∧ i = .int .i64 k ∧ Hid (allTo (ascAt xs) (min k n) = true) ∧ ∃ m, wr = w.drewN m) (fun i _ => n + 1 - (intOf i).toNat)
  case atStart =>
    refine ⟨1, Nat.le_refl _, rfl, Lib.hid ((allTo_iff _ _).2 fun k hk => ?_), 0, rfl⟩
    have : k = 0 := by omega
    subst this; rfl
  case round =>
    obtain ⟨k, hk, rfl, HAL, m, rfl⟩ := hrel
    by_cases hlt : k < n
    · obtain ⟨b, o, hl, rfl, _, _, hc⟩ := HI.out.int hlt
      obtain ⟨b', o', hl', he, _, _, hc'⟩ := HI.out.int (k := k - 1) (by omega)
      injection he with he
      injection he with he1 he2
      subst he1 he2
      have hat := ascAt_pos hl hk
      obtain ⟨x, hx⟩ : ∃ x, x = xs[k - 1] := ⟨_, rfl⟩
      obtain ⟨y, hy⟩ : ∃ y, y = xs[k] := ⟨_, rfl⟩
      rw [← hx] at hc' hat
      rw [← hy] at hc hat
      have hx1 : (0 : Int) ≤ (k : Int) - 1 := by omega
      have hx2 : (k : Int) - 1 < (n : Int) := by omega
      have hx3 : ((k : Int) - 1).toNat = k - 1 := by omega
      have hx4 : (1 : Int) ≤ (k : Int) := by omega
      have hx5 : (k : Int) < (n : Int) + 1 := by omega
      have hx6 : IntKind.i64.wrap ((k : Int) - 1) = (k : Int) - 1 := by rw [IntKind.wrap_i64]; omega
      by_cases hxy : x < y
      · have HAL2 : Hid (allTo (ascAt xs) (min (k + 1) n) = true) := Lib.hid (by
          have h1 := HAL.out
          rw [Nat.min_eq_left (by omega)] at h1 ⊢
          exact allTo_succ h1 (by rw [hat]; exact decide_eq_true hxy))
        have hd : decide (y ≤ x) = false := by simp; omega
        have hd2 : ¬ (y ≤ x) := by omega
        clear hx hy hat hxy
        go_wp2
        go_quiet (fail)
        go_wp2
        exact ⟨⟨k + 1, by omega, by go_num, HAL2, m + nq, rfl⟩, by simp [intOf]; omega⟩
      · have HNO : Hid (ascB xs = false) := Lib.hid (allTo_no hl (by rw [hat]; exact decide_eq_false hxy))
        have hd : decide (y ≤ x) = true := by simp; omega
        have hd2 : y ≤ x := by omega
        clear hx hy hat hxy
        go_wp2
        go_quiet (fail)
        go_wp2
        go_ret
        exact ⟨ret_bool HNO.out.symm, m + nq, World.drewN_drewN _ _ _⟩
    · have HYE : Hid (ascB xs = true) := Lib.hid (by
        have h1 := HAL.out
        rw [Nat.min_eq_right (by omega)] at h1
        unfold ascB; rw [HI.out.1]; exact h1)
      go_wp2
      go_ret
      exact ⟨ret_bool HYE.out.symm, m, rfl⟩

end Go.Proofs.YtnaeglfochnikaaGreat
