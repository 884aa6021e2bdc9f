/-
  The walk of the program's FetchNeed: what is wanted and not there, in order. Condition: lengths fit an int64.
  What FetchPack answers, in plain Lean: the pack of the objects that are needed. No program in sight.
  The datum of Op, and the walks of the laws' functions that count, copy and compare it (szOp, toOp, eqOp and those over slices). Condition: lengths fit an int64.
-/
import Derived.Test.YtnaeglfochnikaaGreatZ10
import Derived.Test.YtnaeglfochnikaaGreatHeapE
import Derived.Test.YtnaeglfochnikaaGreatZ2
import Derived.Test.YtnaeglfochnikaaGreatZ5
import Derived.Test.YtnaeglfochnikaaGreatZ1
import Derived.StillTailTactics
namespace Go.Proofs.YtnaeglfochnikaaGreat
set_option linter.unusedVariables false
set_option linter.unusedSimpArgs false
open Go.RowKit

/-- where nothing is missing, what is needed is what is stored among the wanted and not stored among what is there -/
theorem needL_stored {M : Int → Option ObjD} {ws hs : List Int} (h : misL M ws = []) : (stoL M ws).filter (fun n => !hasB n (stoL M hs)) = needL M ws hs := by
  have h1 : ∀ n ∈ reaL M ws, (M n).isSome = true := fun n hn => by
    rcases e : M n with _ | o
    · have : n ∈ misL M ws := List.mem_filter.2 ⟨hn, by rw [e]; rfl⟩
      rw [h] at this; cases this
    · rfl
  have h2 : stoL M ws = reaL M ws := List.filter_eq_self.2 h1
  unfold needL
  rw [h2]
  refine List.filter_congr fun n hn => ?_
  have : hasB n (stoL M hs) = hasB n (reaL M hs) := by
    unfold hasB
    refine decide_eq_decide.2 ?_
    unfold stoL
    rw [List.mem_filter]
    exact ⟨fun h => h.1, fun h => ⟨h, h1 n hn⟩⟩
  rw [this]
theorem needL_asc (M : Int → Option ObjD) (ws hs : List Int) : (needL M ws hs).Pairwise (· < ·) := List.Pairwise.filter _ (reaL_asc M ws)
theorem needL_len (M : Int → Option ObjD) (ws hs : List Int) : (needL M ws hs).length ≤ 991 := Nat.le_trans (List.length_filter_le _ _) (reaL_len M ws)
theorem stoL_asc (M : Int → Option ObjD) (ws : List Int) : (stoL M ws).Pairwise (· < ·) := List.Pairwise.filter _ (reaL_asc M ws)
theorem stoL_len (M : Int → Option ObjD) (ws : List Int) : (stoL M ws).length ≤ 991 := Nat.le_trans (List.length_filter_le _ _) (reaL_len M ws)
/-- .. an object of the store has each of them -/
theorem HKeep.bel {u w w' : World} {base H C : Nat} {v : Value} {xs : List Int} (h : HKeep w w' H v) (hb : HeapB w base H v xs) (h1 : C ≤ H) (h2 : C ≤ base) (hC : C ≤ w.heap.size) (hu : Below C u w) : Below C u w' :=
  hu.trans ⟨h.1, h.2.1, h.2.2.1, h.2.2.2.1, fun k hk => h.2.2.2.2 k (by omega) (by omega) (fun e => by have := (hb.2.1.lt k e).1; omega)⟩
theorem HeapB.grown {w w' : World} {base H : Nat} {v : Value} {xs : List Int} {row : Option Nat} (h : HeapB w base H v xs) (hg : w.grownBy w' row) (h1 : row ≠ some H) (h2 : ∀ g, v.ownBlock = some g → row ≠ some g) : HeapB w' base H v xs := by
  refine ⟨?_, h.2.1.kept hg (ownNe h2), h.2.2⟩
  rw [hg.block H (hltS h.1) (fun e => h1 e.symm)]; exact h.1
theorem HKeep.own {w w' : World} {base H n : Nat} {e : TypeId} {v u : Value} {cs : List Value} (h : HKeep w w' H v) (ho : w.ownsRow base e 1 u n cs) (h1 : ∀ g, u.ownBlock = some g → g ≠ H ∧ v.ownBlock ≠ some g) : w'.ownsRow base e 1 u n cs := by
  refine ⟨ho.1, ?_⟩
  rcases ho.2 with h2 | ⟨g, cap, cur, h2, h3, h4, h5⟩
  · exact .inl h2
  · have hg : u.ownBlock = some g := by rw [h2]; rfl
    have hl := (ho.lt g hg).2
    have hk := h.2.2.2.2 g hl (h1 g hg).1 (h1 g hg).2
    exact .inr ⟨g, cap, cur, h2, h3, hk.trans h4, h5⟩
theorem own_row_f {w : World} {base n c size : Nat} {e : TypeId} {A : Option Addr} {cs : List Value} (h : w.ownsRow base e size (.slice A n c) n cs) (hn : 0 < n) : ∃ g, A = some ⟨g, 0, none⟩ ∧ base ≤ g ∧ g < w.heap.size := by
  rcases h.2 with ⟨h1, h2⟩ | ⟨g, cap, cur, h1, h2⟩
  · injection h1 with h1 h3 h4; omega
  · injection h1 with h1 h3 h4
    subst h1
    exact ⟨g, rfl, h.lt g rfl⟩
theorem fetR_no {w w' : World} {os : List ObjD} {ws hs : List Int} (h : okF os ws hs = false) (hb : Below w.heap.size w w') : FetR w os ws hs (.returned (.tuple #[.slice none 0 0, .bool false])) w' := by
  refine ⟨_, ?_, hb, by rw [h]⟩
  rw [h]
  exact World.ownsRow_nil w' w.heap.size _ 1
theorem okF_no1 {os : List ObjD} {ws hs : List Int} (h : storeB os = false) : okF os ws hs = false := by unfold okF fromB; rw [h]; rfl
theorem okF_no2 {os : List ObjD} {ws hs : List Int} (h : linksB ws = false) : okF os ws hs = false := by unfold okF fromB; rw [h]; simp
theorem okF_no3 {os : List ObjD} {ws hs : List Int} (h : linksB hs = false) : okF os ws hs = false := by unfold okF fromB; rw [h]; simp
theorem okF_no4 {os : List ObjD} {ws hs : List Int} (h : misL (getO os) ws ≠ []) : okF os ws hs = false := by unfold okF; rw [decide_eq_false h]; simp
theorem okF_yes {os : List ObjD} {ws hs : List Int} (h1 : storeB os = true) (h2 : linksB ws = true) (h3 : linksB hs = true) (h4 : misL (getO os) ws = []) : okF os ws hs = true := by unfold okF fromB; rw [h1, h2, h3, decide_eq_true h4]; rfl

/-- the heap while it is filled and emptied; what lies below it is as it was -/
def FillH (w wr : World) (e0 H : Nat) (v : Value) (xs : List Int) : Prop := HeapB wr e0 H v xs ∧ Below e0 w wr ∧ e0 ≤ H ∧ e0 ≤ w.heap.size
theorem FillH.rd {w wr : World} {e0 H lo hi n : Nat} {A : Option Addr} {v : Value} {xs ys : List Int} (h : FillH w wr e0 H v xs) (hi' : hi ≤ e0) (k : Ints w lo hi A n ys) : Ints wr lo hi A n ys := k.below h.2.1 hi'
theorem FillH.keep {w wr w' : World} {e0 H : Nat} {v v' : Value} {xs ys : List Int} (h : FillH w wr e0 H v xs) (hb : HeapB w' e0 H v' ys) (hk : HKeep wr w' H v) : FillH w w' e0 H v' ys :=
  ⟨hb, hk.bel h.1 h.2.2.1 (Nat.le_refl _) (Nat.le_trans h.2.2.2 h.2.1.size) h.2.1, h.2.2.1, h.2.2.2⟩
theorem FillH.app {w wr w' : World} {e0 H : Nat} {v u : Value} {xs : List Int} {ob : Obj} (h : FillH w wr e0 H v xs) (hg : (wr.alloc ob).grownBy w' u.ownBlock) (h1 : ∀ g, u.ownBlock = some g → e0 ≤ g ∧ g ≠ H ∧ v.ownBlock ≠ some g) : FillH w w' e0 H v xs := by
  have hs : e0 ≤ wr.heap.size := Nat.le_trans h.2.2.2 h.2.1.size
  refine ⟨(h.1.grown (World.grownBy_alloc wr ob none) (fun e => by cases e) (fun g _ e => by cases e)).grown hg (fun e => (h1 H e).2.1 rfl) (fun g hg' e => (h1 g e).2.2 hg'), ?_, h.2.2.1, h.2.2.2⟩
  exact (h.2.1.alloc hs ob).grown hg (by simp; omega) (fun q e => (h1 q e).1)

set_option maxRecDepth 100000 in
set_option maxHeartbeats 3200000 in
theorem implFetch_any (os : List ObjD) (ws hs : List Int) (A : Option Addr) (n c : Nat) (F : Option Addr) (m d : Nat) (G : Option Addr) (k e9 : Nat) (w : World) (lo hi : Nat) (hh : hi ≤ w.heap.size) (hm : m ≤ 9223372036854775807) (hk : k ≤ 9223372036854775807) (h : D.rd w lo hi (dObjects os) (.slice A n c)) (hf : Ints w lo hi F m ws) (hg : Ints w lo hi G k hs) :
    Calls Tryz.prog 18 #[.slice A n c, .slice F m d, .slice G k e9] w fun e w' => FetR w os ws hs e w' := by
  have HI := Lib.hid h
  have HF := Lib.hid hf
  have HG := Lib.hid hg
  have HN := Lib.hid h.len.1
  clear h hf hg
  go_enter Tryz.func18, Tryz.ntmps18
  go_wp2_with fail
  refine (implStoreValid_any os A n c w lo hi hh HI.out).mono ?_
  rintro e w1 ⟨rfl, hb1⟩
  have HB1 := Lib.hid hb1
  have HI1 := Lib.hid (HI.out.below hb1 hh)
  have HF1 := Lib.hid (HF.out.below hb1 hh)
  have HG1 := Lib.hid (HG.out.below hb1 hh)
  have hs1 := hb1.size
  clear hb1
  rcases hsv : storeB os with _ | _
  · have HSN := Lib.hid hsv
    go_wp2_with fail
    go_ret2
    exact fetR_no (okF_no1 HSN.out) HB1.out
  have HSV := Lib.hid hsv
  rcases hlb : linksB ws with _ | _
  · have HLN := Lib.hid hlb
    clear hlb hsv
    go_wp2_with (go_at_call 42; refine (idsOk_any F m d ws w1 lo hi hm HF1.out).mono ?_; rintro e w' ⟨rfl, rfl⟩; rw [HLN.out])
    go_ret2
    exact fetR_no (okF_no2 HLN.out) HB1.out
  have HLB := Lib.hid hlb
  clear hlb hsv
  go_wp2_with fail
  refine (idsOk_any F m d ws w1 lo hi hm HF1.out).mono ?_
  rintro e w2 ⟨rfl, rfl⟩
  rw [HLB.out]
  rcases hlc : linksB hs with _ | _
  · have HLN := Lib.hid hlc
    clear hlc
    go_wp2_with fail
    refine (idsOk_any G k e9 hs w1 lo hi hk HG1.out).mono ?_
    rintro e w2 ⟨rfl, rfl⟩
    rw [HLN.out]
    go_wp2_with fail
    go_ret2
    exact fetR_no (okF_no3 HLN.out) HB1.out
  have HLC := Lib.hid hlc
  clear hlc
  go_wp2_with fail
  refine (idsOk_any G k e9 hs w1 lo hi hk HG1.out).mono ?_
  rintro e w2 ⟨rfl, rfl⟩
  rw [HLC.out]
  go_wp2_with fail
  obtain ⟨p, hp⟩ : ∃ z, z = w1.heap.size := ⟨_, rfl⟩
  obtain ⟨w2, hw2⟩ : ∃ z, z = w1.alloc (.cells #[.slice A n c] 28) := ⟨_, rfl⟩
  have hb2 : Below w1.heap.size w1 w2 := by rw [hw2]; exact (Below.refl _ _).alloc (Nat.le_refl _) _
  have hx2 : w2.heap[p]? = some (.cells #[.slice A n c] 28 (0, 0)) := by rw [hw2, hp]; exact heap_alloc_new w1 _
  have hr2 := HI1.out.below hb2 (Nat.le_trans hh hs1)
  have HF3 := Lib.hid (HF1.out.below hb2 (Nat.le_trans hh hs1))
  have HG3 := Lib.hid (HG1.out.below hb2 (Nat.le_trans hh hs1))
  have hs2 := hb2.size
  have HB2 := Lib.hid (bel_tr HB1.out (Nat.le_refl _) hb2)
  obtain ⟨s1, s2, s3⟩ := (storeB_iff _).1 HSV.out
  have hk0 : w2.cell? ⟨p, 0, none⟩ = some (.slice A n c) := cell_of_row _ _ _ _ _ _ hx2
  have hcx : ∀ (j : Nat) (h : j < 1), w2.cell? ⟨p, j, none⟩ = some (.slice A n c) := fun j h => by
    obtain rfl : j = 0 := by omega
    exact hk0
  have hn16 : n ≤ 1000 := by have := HN.out; omega
  rw [← hw2, ← hp]
  refine (byId_any 1 p 1 (fun _ => A) (fun _ => n) (fun _ => c) (fun _ => os) (by omega) w2 lo hi (by omega) (hltS hx2) (fun _ => s1) (fun _ => by omega) (fun _ => hr2) hcx).mono ?_
  rintro e w3 ⟨rfl, hom, hb3⟩
  rw [byL_one (fun _ => os) s2] at hom
  have HOM := Lib.hid hom
  have HF4 := Lib.hid (HF3.out.below hb3 (by omega))
  have HG4 := Lib.hid (HG3.out.below hb3 (by omega))
  have HB3 := Lib.hid (bel_tr HB2.out (Nat.le_refl _) hb3)
  have hs3 := hb3.size
  have hbl : w2.heap.size < w3.heap.size := by obtain ⟨_, _, h1, _⟩ := hom; exact h1.lt
  obtain ⟨b, hbb⟩ : ∃ z, z = w2.heap.size := ⟨_, rfl⟩
  rw [← hbb] at HOM hbl
  rw [← hbb]
  have HRG := Lib.hid (idsB_mem (linksB_and HLB.out).1)
  have HRH := Lib.hid (idsB_mem (linksB_and HLC.out).1)
  have hwl := (linksB_and HLB.out).2
  have hhl := (linksB_and HLC.out).2
  have HV := Lib.hid (fun (i : Int) (o : ObjD) (h : getO os i = some o) => s1 o (getO_some h).1)
  clear hb2 hx2 hr2 hw2 hp hk0 hcx hom hb3 hbb s1 s2
  go_wp2_with fail
  refine (reach_any (getO os) ws b F m d w3 lo hi lo hi (by omega) (by omega) hbl HV.out (by omega) HRG.out HOM.out HF4.out).mono ?_
  rintro e w4 ⟨vs, vm, st, ms, hW, hos, hom, -, hb4, rfl⟩
  obtain ⟨e1, e2, e3, e4⟩ := reach_mis hW
  rw [e2, e4] at hos
  rw [e3] at hom
  obtain ⟨A2, c2, rfl, -, hc21, hrd2⟩ := Rd.of_own hos
  obtain ⟨Am, cm, rfl, -⟩ := Rd.of_own hom
  have HS4 : Hid (Ints w4 w3.heap.size w4.heap.size A2 (stoL (getO os) ws).length (stoL (getO os) ws)) := Lib.hid ⟨rfl, hrd2⟩
  have HB4 := Lib.hid (bel_tr HB3.out (Nat.le_refl _) hb4)
  have HOM4 := Lib.hid (HOM.out.kept (by omega) (grown_none hb4 none) (fun q e => by cases e))
  have HG5 := Lib.hid (HG4.out.below hb4 (by omega))
  have hs4 := hb4.size
  have hbl4 : b < w4.heap.size := by omega
  clear hos hom hb4 e1 e2 e3 e4 hW hrd2 hc21
  obtain ⟨z, hz⟩ : ∃ z, z = (misL (getO os) ws).length := ⟨_, rfl⟩
  rw [← hz]
  by_cases hz0 : 0 < z
  · have HZ := Lib.hid (show misL (getO os) ws ≠ [] from fun e => by rw [e] at hz; simp at hz; omega)
    have hz1 : (0 : Int) < (z : Int) := by omega
    clear hz
    go_wp2_with fail
    go_ret2
    exact fetR_no (okF_no4 HZ.out) HB4.out
  have hz1 : z = 0 := by omega
  subst hz1
  have HZ := Lib.hid (show misL (getO os) ws = [] from List.length_eq_zero_iff.1 hz.symm)
  clear hz hz0
  go_wp2_with fail
  refine (reach_any (getO os) hs b G k e9 w4 lo hi lo hi (by omega) (by omega) hbl4 HV.out (by omega) HRH.out HOM4.out HG5.out).mono ?_
  rintro e w5 ⟨vs, vm, st, ms, hW, hos, -, -, hb5, rfl⟩
  obtain ⟨-, e2, -, e4⟩ := reach_mis hW
  rw [e2, e4] at hos
  obtain ⟨A9, c9, rfl, -, -, hrd9⟩ := Rd.of_own hos
  have HT5 : Hid (Ints w5 w4.heap.size w5.heap.size A9 (stoL (getO os) hs).length (stoL (getO os) hs)) := Lib.hid ⟨rfl, hrd9⟩
  have HS5 := Lib.hid (HS4.out.below hb5 (Nat.le_refl _))
  have HB5 := Lib.hid (bel_tr HB4.out (Nat.le_refl _) hb5)
  have hs5 := hb5.size
  clear hos hb5 e2 e4 hW hrd9
  obtain ⟨S, hS⟩ : ∃ z, z = stoL (getO os) ws := ⟨_, rfl⟩
  obtain ⟨T, hT⟩ : ∃ z, z = stoL (getO os) hs := ⟨_, rfl⟩
  have HNL : Hid (S.filter (fun n => !hasB n T) = needL (getO os) ws hs) := Lib.hid (by rw [hS, hT]; exact needL_stored HZ.out)
  have HSA : Hid (S.Pairwise (· < ·)) := Lib.hid (by rw [hS]; exact stoL_asc _ _)
  have hSl : S.length ≤ 991 := by rw [hS]; exact stoL_len _ _
  have hTl : T.length ≤ 991 := by rw [hT]; exact stoL_len _ _
  rw [← hS] at HS5
  rw [← hT] at HT5
  rw [← hS, ← hT]
  obtain ⟨q, hq⟩ : ∃ z, z = S.length := ⟨_, rfl⟩
  obtain ⟨q9, hq9⟩ : ∃ z, z = T.length := ⟨_, rfl⟩
  have HQ := Lib.hid hq
  rw [← hq] at HS5 hSl
  rw [← hq9] at HT5 hTl
  rw [← hq, ← hq9]
  have HYES : Hid (okF os ws hs = true) := Lib.hid (okF_yes HSV.out HLB.out HLC.out HZ.out)
  clear hS hT hq hq9 HRG HRH HV HOM HOM4 HG5 HG4 HG3 HG1 HF4 HF3 HF1 HI1 HS4
  obtain ⟨e0, he0⟩ : ∃ z, z = w5.heap.size := ⟨_, rfl⟩
  obtain ⟨H, hH⟩ : ∃ z, z = w5.heap.size + 1 := ⟨_, rfl⟩
  obtain ⟨w6, hw6⟩ : ∃ z, z = (w5.alloc (.cells #[] 3)).alloc (.cells #[.slice (some ⟨w5.heap.size, 0, none⟩) 0 0] 73) := ⟨_, rfl⟩
  have hb6 : Below w5.heap.size w5 w6 := by rw [hw6]; exact ((Below.refl _ _).alloc (Nat.le_refl _) _).alloc (by simp) _
  have hx6 : w6.heap[H]? = some (.cells #[.slice (some ⟨e0, 0, none⟩) 0 0] 73 (0, 0)) := by
    rw [hw6, hH, he0, show w5.heap.size + 1 = (w5.alloc (.cells #[] 3)).heap.size from by simp]; exact heap_alloc_new _ _
  have ho6 : w6.ownsRow e0 3 1 (.slice (some ⟨e0, 0, none⟩) 0 0) 0 [] := by rw [hw6, he0]; exact (own_nil_lit w5 3 1).alloc _
  have hF6 : FillH w5 w6 e0 H (.slice (some ⟨e0, 0, none⟩) 0 0) [] := ⟨⟨hx6, ho6, fun g hg => by injection hg with hg; dsimp only at hg; omega⟩, by rw [he0]; exact hb6, by omega, by omega⟩
  have HF6 := Lib.hid hF6
  have h5e : w5.heap.size ≤ e0 := by omega
  have h4e : w4.heap.size ≤ e0 := by omega
  go_upto_region 9 with (fail)
  rw [← hw6, ← hH, ← he0]
  clear hb6 hx6 ho6 hF6 hw6 hH he0
  go_wp2_with fail
  go_loopw [52] (fun i wr => ∃ (j : Nat) (v : Value), j ≤ q ∧ i = .int .i64 j ∧ Hid (FillH w5 wr e0 H v ((S.take j).filter fun n => !hasB n T))) (fun i _ => q - (intOf i).toNat)
  case atStart => exact ⟨0, _, Nat.zero_le _, rfl, HF6⟩
  case round =>
    obtain ⟨j, v, hj, rfl, HX⟩ := hrel
    obtain ⟨w7, hw7⟩ : ∃ z, z = wr := ⟨_, rfl⟩
    subst hw7
    have hs7 := HX.out.2.1.size
    have he7 : e0 ≤ w7.heap.size := Nat.le_trans HX.out.2.2.2 hs7
    obtain ⟨ys, hys⟩ : ∃ ys, ys = (S.take j).filter fun n => !hasB n T := ⟨_, rfl⟩
    have HYS := Lib.hid hys
    have hyl : ys.length ≤ j := by rw [hys]; exact Nat.le_trans (List.length_filter_le _ _) (by rw [List.length_take]; exact Nat.min_le_left _ _)
    rw [← hys] at HX
    clear hys
    by_cases hlt : j < q
    · obtain ⟨b8, o8, hl, rfl, _, hbh, hc⟩ := (HX.out.rd h4e HS5.out).int hlt
      have hb8 : b8 < w7.heap.size := by omega
      have HSN := Lib.hid (filter_snoc (p := fun n => !hasB n T) hl)
      obtain ⟨x, hx⟩ : ∃ x, x = S[j] := ⟨_, rfl⟩
      rw [← hx] at hc
      have HXX := Lib.hid hx
      clear hx
      go_wp2_with fail
      refine (contains_any A9 q9 c9 T x w7 w4.heap.size w5.heap.size (by omega) (HX.out.rd h5e HT5.out)).mono ?_
      rintro e w8 ⟨rfl, rfl⟩
      obtain ⟨r, hrr⟩ : ∃ r, r = hasB x T := ⟨_, rfl⟩
      have HRR := Lib.hid hrr
      rw [← hrr]
      clear hrr
      rcases r with _ | _
      · have HE : Hid (((S.take (j + 1)).filter fun n => !hasB n T) = ys ++ [x]) := Lib.hid (by rw [HSN.out, ← HXX.out, ← HYS.out]; rw [← HRR.out]; rfl)
        have HPN : Hid (HeapN (ys ++ [x]) (ys ++ [x]).length) := Lib.hid (by rw [← HE.out]; exact HeapN.of_asc (List.Pairwise.filter _ (HSA.out.sublist (List.take_sublist _ _))))
        go_wp2_with fail
        refine (heapPush_any ys e0 H v x w7 (by omega) he7 HPN.out HX.out.1).mono ?_
        rintro e w8 ⟨⟨y8, rfl⟩, v8, hb8', hk8, -⟩
        have HX8 := Lib.hid (HX.out.keep hb8' hk8)
        clear hb8' hk8
        go_wp2_with fail
        go_roundw
        case rel => exact ⟨j + 1, v8, by omega, by go_num, by rw [HE.out]; exact HX8⟩
        case measure => simp [intOf]; omega
      · have HE : Hid (((S.take (j + 1)).filter fun n => !hasB n T) = ys) := Lib.hid (by rw [HSN.out, ← HXX.out, ← HYS.out]; rw [← HRR.out]; simp)
        go_wp2_with fail
        go_roundw
        case rel => exact ⟨j + 1, v, by omega, by go_num, by rw [HE.out]; exact HX⟩
        case measure => simp [intOf]; omega
    · have hjq : j = q := by omega
      subst hjq
      have HE : Hid (ys = needL (getO os) ws hs) := Lib.hid (by rw [HYS.out, ← HNL.out, List.take_of_length_le (by rw [← HQ.out]; exact Nat.le_refl _)])
      have HA : Hid (ys.Pairwise (· < ·)) := Lib.hid (by rw [HE.out]; exact needL_asc _ _ _)
      clear HYS
      go_wp2_with fail
      go_loopw [16] (fun u wr => ∃ (os' rs zs : List Int) (v' : Value), Hid (os' ++ rs = ys) ∧ Hid (FillH w5 wr e0 H v' zs) ∧ Hid (HeapN zs zs.length) ∧ Hid (zs.Perm rs) ∧ Hid (wr.ownsRow e0 3 1 u os'.length (os'.flatMap ci)) ∧ Hid (∀ g, u.ownBlock = some g → g ≠ H ∧ v'.ownBlock ≠ some g)) (fun u _ => 991 - lenV u)
      case atStart => exact ⟨[], ys, ys, v, Lib.hid rfl, HX, Lib.hid (HeapN.of_asc HA.out), Lib.hid (List.Perm.refl _), Lib.hid (World.ownsRow_nil _ _ _ 1), Lib.hid (fun g hg => by cases hg)⟩
      case round =>
        obtain ⟨out, rs, zs, v2, HOR, HX2, HHN, HPM, HOU, HNE⟩ := hrel
        obtain ⟨w9, hw9⟩ : ∃ z, z = wr := ⟨_, rfl⟩
        subst hw9
        have hol : out.length + rs.length = ys.length := by rw [← HOR.out, List.length_append]
        have hzr : zs.length = rs.length := HPM.out.length_eq
        obtain ⟨Au, cu, rfl, -⟩ := Rd.of_own HOU.out
        obtain ⟨Av, cv, rfl⟩ := HX2.out.1.shape
        have hcell := HX2.out.1.cell
        have he9 : e0 ≤ w9.heap.size := Nat.le_trans HX2.out.2.2.2 HX2.out.2.1.size
        obtain ⟨y0, hy0⟩ : ∃ z, z = zs.length := ⟨_, rfl⟩
        have HY0 := Lib.hid hy0
        rw [← hy0] at hcell HX2
        by_cases hn0 : 0 < y0
        · have hn1 : (0 : Int) < (y0 : Int) := by omega
          obtain ⟨g, rfl, hg1, hg2⟩ := own_row_f (by have h := HX2.out.1.2.1; rw [← hy0] at h; exact h) hn0
          rcases rs with _ | ⟨r, rs⟩
          · rw [List.length_nil] at hzr; omega
          rw [List.length_cons] at hzr hol
          obtain ⟨n9, hn9⟩ : ∃ z, y0 = z + 1 := ⟨y0 - 1, by omega⟩
          have HB9 : Hid (HeapB w9 e0 H (.slice (some ⟨g, 0, none⟩) zs.length cv) zs) := Lib.hid (by rw [← hy0]; exact HX2.out.1)
          have HZ0 : Hid (zs.getD 0 0 = r) := Lib.hid (HeapN.head HHN.out HPM.out (by have h := HA.out; rw [← HOR.out] at h; exact h.sublist (List.sublist_append_right _ _)))
          have HL9 : Hid (zs.length = n9 + 1) := Lib.hid (by rw [← hy0]; exact hn9)
          have hn990 : n9 ≤ 990 := by omega
          have hlo : out.length ≤ 990 := by omega
          clear hzr hol
          have HYn := Lib.hid hn9
          clear hn9 hy0
          go_wp2_with fail
          refine (heapLen_any (some ⟨g, 0, none⟩) y0 cv w9).mono ?_
          rintro e w10 ⟨rfl, rfl⟩
          clear hcell
          go_wp2_with fail
          refine (heapPop_any zs e0 H g cv n9 w9 HL9.out hn990 HHN.out HB9.out).mono ?_
          rintro e w10 ⟨rfl, zs4, v4, hb4, hk4, hat4, hp4, hl4, hd4, hn4⟩
          rw [HZ0.out]
          rw [← HY0.out] at hk4
          have HX4 := Lib.hid (HX2.out.keep hb4 hk4)
          have HO4 := Lib.hid (hk4.own HOU.out HNE.out)
          have HNE4 : Hid (∀ g', (Value.slice Au out.length cu).ownBlock = some g' → g' ≠ H ∧ v4.ownBlock ≠ some g') := Lib.hid fun g' hg' => ⟨(HNE.out g' hg').1, by rw [hat4]; exact (HNE.out g' hg').2⟩
          have HP4 : Hid ((zs4.take n9).Perm rs) := Lib.hid (take_perm hl4 (hp4.trans HPM.out) (hd4.trans HZ0.out))
          have HN4 : Hid (HeapN (zs4.take n9) (zs4.take n9).length) := Lib.hid (HeapN.take hn4 (by omega))
          have hs10 := hk4.2.2.2.1
          have h10H : H < w10.heap.size := hltS hb4.1
          have h10g : g < w10.heap.size := (hb4.2.1.lt g hat4).2
          have HAT4 := Lib.hid hat4
          clear hb4 hk4 hat4 hp4 hl4 hd4 hn4
          have hta : ∀ W, (Instr.typeAssert (.iface 3 (.int .i64 r)) 20 3 false).run Tryz.prog W = .ok (.int .i64 r) W := fun W => by kernel_rfl
          go_wp2_with (at_builtin; go_must (refine wpList_app_at Tryz.elI (m := 1) (HO4.out.alloc _) (rd_newn (n := w10.heap.size) rfl [.int .i64 r] 3) rfl (by simp [Value.oneCell']) (by unfold maxLen; omega) (by omega) (by simp; omega) rfl rfl rfl rfl ?_); intro v5 w11 hown5 hg5 hat5; go_must (have HX5 := Lib.hid (HX4.out.app hg5 (fun g' hg' => ⟨(HO4.out.lt g' hg').1, (HNE4.out g' hg').1, (HNE4.out g' hg').2⟩))); go_must (have HNE5 : Hid (∀ g', v5.ownBlock = some g' → g' ≠ H ∧ v4.ownBlock ≠ some g') := Lib.hid (fun g' hg' => hat5.elim (fun e1 => HNE4.out g' (by rw [← e1]; exact hg')) (fun e1 => (by rw [e1, World.size_alloc] at hg'; injection hg' with hg'; exact ⟨by omega, by rw [HAT4.out]; intro h; injection h with h; omega⟩)))); obtain ⟨A5, c5, rfl, -⟩ := Rd.of_own hown5; have HO5 := Lib.hid hown5; clear hown5 hg5 hat5)
          go_roundw
          case rel => exact ⟨out ++ [r], rs, zs4.take n9, v4, Lib.hid (by rw [← HOR.out]; simp), HX5, HN4, HP4, Lib.hid (by rw [List.length_append, List.flatMap_append]; exact HO5.out), HNE5⟩
          case measure => simp [lenV]; omega
        · have hn1 : y0 = 0 := by omega
          subst hn1
          have hrs : rs = [] := List.length_eq_zero_iff.1 (by omega)
          have HOE : Hid (out = needL (getO os) ws hs) := Lib.hid (by rw [← HE.out, ← HOR.out, hrs, List.append_nil])
          clear hy0 hzr hol hrs
          go_wp2_with fail
          refine (heapLen_any Av 0 cv w9).mono ?_
          rintro e w10 ⟨rfl, rfl⟩
          go_wp2_with fail
          go_ret2
          refine ⟨_, ?_, bel_tr HB5.out (Nat.le_refl _) (HX2.out.2.1.mono h5e), by rw [HYES.out]; rfl⟩
          rw [HYES.out, if_pos rfl, ← HOE.out]
          exact own_low HOU.out (Nat.le_trans HB5.out.size h5e)

end Go.Proofs.YtnaeglfochnikaaGreat

namespace Go.Proofs.YtnaeglfochnikaaGreat
set_option linter.unusedVariables false
set_option linter.unusedSimpArgs false
open Go.RowKit

theorem nodup_sub_len : ∀ (xs ys : List Int), xs.Nodup → (∀ x ∈ xs, x ∈ ys) → xs.length ≤ ys.length
  | [], _, _, _ => Nat.zero_le _
  | x :: xs, ys, hn, hs => by
    obtain ⟨h1, h2⟩ := List.nodup_cons.1 hn
    have hx := hs x List.mem_cons_self
    have ih := nodup_sub_len xs (ys.erase x) h2 (fun z hz => (List.mem_erase_of_ne (fun e => by subst e; exact h1 hz)).2 (hs z (List.mem_cons_of_mem _ hz)))
    rw [List.length_erase_of_mem hx] at ih
    have := List.length_pos_of_mem hx
    rw [List.length_cons]; omega
/-- every id that is needed has its object -/
theorem need_some {os : List ObjD} {ws hs : List Int} (h : okF os ws hs = true) {i : Int} (hi : i ∈ needL (getO os) ws hs) : ∃ o, getO os i = some o ∧ o ∈ os ∧ idB o = i := by
  obtain ⟨-, -, h3⟩ := okF_and h
  rcases e : getO os i with _ | o
  · have : i ∈ misL (getO os) ws := List.mem_filter.2 ⟨(List.mem_filter.1 hi).1, by rw [e]; rfl⟩
    rw [h3] at this; cases this
  · obtain ⟨h1, h2⟩ := getO_some e
    exact ⟨o, rfl, h1, h2⟩
/-- the objects that are needed -/
noncomputable def needO (os : List ObjD) (ws hs : List Int) : List ObjD := (needL (getO os) ws hs).map fun i => (getO os i).getD zObjM
theorem needO_len (os : List ObjD) (ws hs : List Int) : (needO os ws hs).length = (needL (getO os) ws hs).length := by unfold needO; rw [List.length_map]
theorem needO_at {os : List ObjD} {ws hs : List Int} (h : okF os ws hs = true) {k : Nat} (hk : k < (needL (getO os) ws hs).length) : ∃ o, getO os (needL (getO os) ws hs)[k] = some o ∧ o ∈ os ∧ idB o = (needL (getO os) ws hs)[k] ∧ (needO os ws hs)[k]? = some o := by
  obtain ⟨o, h1, h2, h3⟩ := need_some h (List.getElem_mem hk)
  refine ⟨o, h1, h2, h3, ?_⟩
  unfold needO
  rw [List.getElem?_map, List.getElem?_eq_getElem hk]
  simp [h1]
theorem needO_obj {os : List ObjD} {ws hs : List Int} (h : okF os ws hs = true) : ∀ o ∈ needO os ws hs, objB o = true := fun o ho => by
  unfold needO at ho
  obtain ⟨i, hi, rfl⟩ := List.mem_map.1 ho
  obtain ⟨o, h1, h2, -⟩ := need_some h hi
  rw [h1]
  obtain ⟨h4, -, -⟩ := okF_and h
  exact ((storeB_iff _).1 (fromB_and h4).1).1 o h2
theorem needL_len16 {os : List ObjD} {ws hs : List Int} (h : okF os ws hs = true) : (needL (getO os) ws hs).length ≤ 16 := by
  obtain ⟨h4, -, -⟩ := okF_and h
  have h5 := ((storeB_iff _).1 (fromB_and h4).1).2.2
  have h6 := nodup_sub_len (needL (getO os) ws hs) (os.map idB) (by
    rw [List.nodup_iff_pairwise_ne]
    exact List.Pairwise.imp (fun hab => by omega) (needL_asc (getO os) ws hs)) (fun x hx => by
    obtain ⟨o, -, h2, h3⟩ := need_some h hx
    exact List.mem_map.2 ⟨o, h2, h3⟩)
  rw [List.length_map] at h6
  omega
/-- the pack that is sent -/
noncomputable def fpackL (os : List ObjD) (ws hs : List Int) : List PED := if okF os ws hs = true then mkL (needO os ws hs) else []
theorem fpackL_yes {os : List ObjD} {ws hs : List Int} (h : okF os ws hs = true) : fpackL os ws hs = mkL (needO os ws hs) := by unfold fpackL; rw [if_pos h]
theorem fpackL_no {os : List ObjD} {ws hs : List Int} (h : okF os ws hs = false) : fpackL os ws hs = [] := by unfold fpackL; rw [if_neg (by rw [h]; simp)]

end Go.Proofs.YtnaeglfochnikaaGreat

namespace Go.Proofs.YtnaeglfochnikaaGreat
set_option linter.unusedVariables false
set_option linter.unusedSimpArgs false
open Go.RowKit

/-- the fields of a value of type Op -/
def fOp (x : OpD) : List D := [.int x.at_, .int x.size, .str x.text]
theorem fOp_len (x : OpD) : (fOp x).length = 3 := rfl
/-- a slice of them -/
def dOps (xs : List OpD) : D := .arr 3 xs.length (xs.flatMap fOp)
theorem szL_fOp (x : OpD) : D.szL (fOp x) = x.text.size := by
  unfold fOp
  simp only [szL_cons, szL_nil, sz_int, sz_str]
  omega

theorem rd_Op {w : World} {lo hi n k c : Nat} {A : Option Addr} {xs : List OpD} (h : D.rd w lo hi (dOps xs) (.slice A n c)) (hk : k < n) :
    ∃ (b o : Nat) (hl : k < xs.length), A = some ⟨b, o, none⟩ ∧ lo ≤ b ∧ b < hi ∧ w.cell? ⟨b, o + k * 3, none⟩ = some (.int .i64 xs[k].at_) ∧ w.cell? ⟨b, o + k * 3 + 1, none⟩ = some (.int .i64 xs[k].size) ∧ w.cell? ⟨b, o + k * 3 + 2, none⟩ = some (.string xs[k].text) ∧ xs[k].text.size ≤ 9223372036854775807 := by
  have hn := h.len.1
  obtain ⟨b, o, hl, rfl, g1, g2, hc⟩ := h.at_ fOp_len (by omega) (k := k) (by omega)
  obtain ⟨u0, hu0, hr0⟩ := hc 0 _ rfl
  obtain rfl := hr0.int_inv
  obtain ⟨u1, hu1, hr1⟩ := hc 1 _ rfl
  obtain rfl := hr1.int_inv
  obtain ⟨u2, hu2, hr2⟩ := hc 2 _ rfl
  obtain ⟨rfl, ht2⟩ := hr2.str_inv
  exact ⟨b, o, hl, rfl, g1, g2, hu0, hu1, hu2, ht2⟩

theorem sz_Op_get {xs : List OpD} {x : OpD} (hx : x ∈ xs) : D.szL (fOp x) ≤ D.sz (dOps xs) := by
  unfold dOps
  rw [sz_arr]
  have := szL_get fOp xs hx
  omega

set_option maxRecDepth 100000 in
set_option maxHeartbeats 1600000 in
theorem eqOp_d (at_ : Int) (size : Int) (text : ByteArray) (w : World) (lo hi lo' hi' : Nat) (hh : hi ≤ w.heap.size) (hh' : hi' ≤ w.heap.size) :
    Calls Tryz.prog 90 #[.agg #[.int .i64 at_, .int .i64 size, .string text], .agg #[.int .i64 at_, .int .i64 size, .string text]] w fun e w' => e = .returned (.bool true) ∧ Below w.heap.size w w' := by

  have he0 : (!(at_ == at_)) = false := by simp
  have he1 : (!(size == size)) = false := by simp
  have he2 : (!(text.toList == text.toList)) = false := by simp
  have HB0 : Hid (Below w.heap.size w ((w.alloc (.cells #[.int .i64 at_, .int .i64 size, .string text] 96)).alloc (.cells #[.int .i64 at_, .int .i64 size, .string text] 96))) := ((Below.refl _ _).alloc (Nat.le_refl _) _).alloc (by simp) _
  go_enter Tryz.func90, Tryz.ntmps90
  go_wp2_with fail
  go_ret
  exact ⟨rfl, HB0.out⟩

set_option maxRecDepth 100000 in
set_option maxHeartbeats 1600000 in
theorem eqOpS_d (xs : List OpD) (A A' : Option Addr) (n n' c c' : Nat) (w : World) (lo hi lo' hi' : Nat) (hh : hi ≤ w.heap.size) (hh' : hi' ≤ w.heap.size) (h : D.rd w lo hi (dOps xs) (.slice A n c)) (h' : D.rd w lo' hi' (dOps xs) (.slice A' n' c')) :
    Calls Tryz.prog 68 #[.slice A n c, .slice A' n' c'] w fun e w' => e = .returned (.bool true) ∧ Below w.heap.size w w' := by
  have h1 := h.len
  have h2 := h'.len
  obtain rfl : n' = n := h2.1.trans h1.1.symm
  have hn63 : n' ≤ 9223372036854775807 := by omega
  have HI := Lib.hid h
  have HJ := Lib.hid h'
  clear h h' h1 h2
  go_enter Tryz.func68, Tryz.ntmps68
  go_wp2_with fail
  go_loopw [5] (fun i wr => ∃ k : Nat, k ≤ n' ∧ i = .int .i64 k ∧ Below w.heap.size w wr) (fun i _ => n' - (intOf i).toNat)
  case atStart => exact ⟨0, Nat.zero_le _, rfl, Below.refl _ _⟩
  case round =>
    obtain ⟨k, hk, rfl, hb⟩ := hrel
    have HB := Lib.hid hb
    have hwsz := hb.size
    clear hb
    by_cases hlt : k < n'
    · obtain ⟨b, o, hl, rfl, _, hbh, hc0, hc1, hc2, ht2⟩ := rd_Op (HI.out.below HB.out hh) hlt
      obtain ⟨b', o', hl', rfl, _, hbh', hd0, hd1, hd2, -⟩ := rd_Op (HJ.out.below HB.out hh') hlt
      go_wp2_with fail
      go_still_tail 8, (by kernel_rfl)
      change wpList _ _ _ _ _ wr.drew
      go_wp2_with fail
      refine (eqOp_d xs[k].at_ xs[k].size xs[k].text wr.drew lo hi lo' hi' (Nat.le_trans hh HB.out.size) (Nat.le_trans hh' HB.out.size)).mono ?_
      rintro e w2 ⟨rfl, hb2⟩
      have HB2 : Hid (Below w.heap.size w w2) := HB.out.drew.trans (hb2.mono hwsz)
      clear hb2
      go_wp2_with fail
      go_roundw
      case rel => exact ⟨k + 1, by omega, by go_num, HB2.out⟩
      case measure => simp [intOf]; omega
    · have hkn : k = n' := by omega
      subst hkn
      go_wp2_with fail
      go_ret
      exact ⟨rfl, HB.out⟩

end Go.Proofs.YtnaeglfochnikaaGreat
