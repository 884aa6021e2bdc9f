/-
  The walks of markQuarantine and heldQuarantine: nothing but the quarantine's own blocks turns; such marks are told. Condition: few elements.
-/
import Derived.Test.YtgpjcmplnigmcaaMArea
import Derived.Test.YtgpjcmplnigmcaaTQua
import Derived.Test.YtgpjcmplnigmcaaNestQ
import Derived.Test.YtgpjcmplnigmcaaM9
namespace Go.Proofs.Ytgpjcmplnigmcaa
set_option linter.unusedVariables false
set_option linter.unusedSimpArgs false
open Go.RowKit

theorem cnt_dObjects (xs : List ObjD) : D.cnt (dObjects xs) ≤ 3 * D.sz (dObjects xs) :=
  cnt_arr_le fObject (fun x => by
    rw [szL_fObject]
    unfold fObject
    simp only [cntL_cons, cntL_nil, cnt_int, cnt_str, cnt_ints]
    have h2 := sz_ints x.links
    omega) 3 xs
theorem cnt_dAreas (xs : List AreaD) : D.cnt (dAreas xs) ≤ 3 * D.sz (dAreas xs) :=
  cnt_arr_le fArea (fun x => by
    rw [szL_fArea]
    unfold fArea
    simp only [cntL_cons, cntL_nil, cnt_int]
    have h1 := cnt_dObjects x.objs
    omega) 2 xs

/-- a struct's fields in blocks of their own, from lo on and below hi -/
def OwnLI (w : World) (lo hi : Nat) (ds : List D) (vs : List Value) : Prop := ∃ F : List Nat, F.Nodup ∧ (∀ g ∈ F, lo ≤ g ∧ g < hi) ∧ D.ownL w ds F vs
theorem OwnLI.below {w w' : World} {lo hi C : Nat} {ds : List D} {vs : List Value} (h : OwnLI w lo hi ds vs) (hb : Below C w w') (hC : hi ≤ C) : OwnLI w' lo hi ds vs := by
  obtain ⟨F, h1, h2, h3⟩ := h
  exact ⟨F, h1, h2, D.ownL.keep ds F vs (fun g hg => hb.block g (Nat.lt_of_lt_of_le (h2 g hg).2 hC)) h3⟩
theorem rdL2 {w : World} {lo hi : Nat} {d0 d1 : D} {v0 v1 : Value} (this : D.rdL w lo hi [d0, d1] [v0, v1]) : D.rd w lo hi d0 v0 ∧ D.rd w lo hi d1 v1 := by
  unfold D.rdL at this
  obtain ⟨_, _, e, g0, this⟩ := this
  unfold D.rdL at this
  obtain ⟨_, _, e2, g1, _⟩ := this
  injection e with e3 e4
  subst e3 e4
  injection e2 with e5 e6
  subst e5
  exact ⟨g0, g1⟩
theorem OwnLI.rd2 {w : World} {lo hi : Nat} {d0 d1 : D} {v0 v1 : Value} (h : OwnLI w lo hi [d0, d1] [v0, v1]) : D.rd w lo hi d0 v0 ∧ D.rd w lo hi d1 v1 := by
  obtain ⟨F, _, h2, h3⟩ := h
  exact rdL2 (D.ownL.rd _ F _ h2 h3)
theorem ownL_two {w : World} {d0 d1 : D} {v0 v1 : Value} {F : List Nat} (h : D.ownL w [d0, d1] F [v0, v1]) : ∃ F1 F2, F = F1 ++ F2 ∧ D.own w d0 F1 v0 ∧ D.own w d1 F2 v1 := by
  unfold D.ownL at h
  obtain ⟨a, r, F1, G, e, rfl, h0, h⟩ := h
  unfold D.ownL at h
  obtain ⟨b, r2, F2, G2, e2, rfl, h1, h⟩ := h
  unfold D.ownL at h
  obtain ⟨rfl, rfl⟩ := h
  injection e with e3 e4
  subst e3 e4
  injection e2 with e5 e6
  subst e5
  exact ⟨F1, F2, by simp, h0, h1⟩

/-- a row of its own, with what its fields own -/
theorem row_own {w : World} {base m n : Nat} {E : TypeId} {v : Value} {es : List D} {F : List Nat} {vs : List Value} (h1 : w.ownsRow base E m v n vs) (h2 : D.ownL w es F vs) : ∃ G, D.own w (.arr m n es) G v ∧ (G = F ∨ ∃ g, v.ownBlock = some g ∧ G = g :: F) := by
  have hl := D.ownL.length h2
  obtain ⟨A, c, rfl, hc1, hc2, -⟩ := Rd.of_own h1
  unfold maxLen at hc2
  have hes : es.length = n * m := by rw [← hl]; exact h1.1
  rcases h1.2 with ⟨e, rfl⟩ | ⟨g, cap, cur, e, hb, hh, _⟩
  · have : vs = [] := List.eq_nil_of_length_eq_zero (by simpa using h1.1)
    subst this
    refine ⟨F, ?_, .inl rfl⟩
    unfold D.own
    exact ⟨A, c, [], F, rfl, hc1, hc2, hes, h2, .inl ⟨rfl, rfl⟩⟩
  · injection e with e1 e2 e3
    subst e1
    refine ⟨g :: F, ?_, .inr ⟨g, rfl, rfl⟩⟩
    unfold D.own
    refine ⟨_, c, vs, F, rfl, hc1, hc2, hes, h2, .inr ⟨g, 0, rfl, rfl, fun j u hu => ⟨?_, ?_⟩⟩⟩
    · have := h1.cells (g := g) rfl j u hu
      have e2 : (⟨g, 0, none⟩ : Addr).add j = ⟨g, 0 + j, none⟩ := by
        unfold Addr.add
        by_cases hj : j = 0 <;> simp [hj]
      rw [← e2]; exact this
    · exact frozen_of_row w g _ _ _ hh
theorem QuaG.ival {w : World} {base : Nat} {q : QuaD} {vm va : Value} (h : QuaG w base q vm va) : OwnLI w base w.heap.size [dObjects q.main, dAreas q.areas] [vm, va] := by
  obtain ⟨Fm, vs, Fa, h1, h2, h3, h4, h5, h6⟩ := h
  obtain ⟨G, hG, hg⟩ := row_own h2 h3
  have hL : D.ownL w [dObjects q.main, dAreas q.areas] (Fm ++ G) [vm, va] := by
    have := D.ownL.cons h1 (D.ownL.cons (show D.own w (dAreas q.areas) G va from hG) (D.ownL.nil w))
    simpa using this
  rcases hg with rfl | ⟨g, hv, rfl⟩
  · exact ⟨Fm ++ G, h4, h5, hL⟩
  · have hgn := h6 g hv
    refine ⟨Fm ++ g :: Fa, ?_, fun x hx => ?_, hL⟩
    · have hp : (Fm ++ g :: Fa).Perm (g :: (Fm ++ Fa)) := List.perm_middle
      exact hp.nodup_iff.2 (List.nodup_cons.2 ⟨hgn, h4⟩)
    · rcases List.mem_append.1 hx with hx | hx
      · exact h5 x (List.mem_append_left _ hx)
      · rcases List.mem_cons.1 hx with rfl | hx
        · exact ⟨(h2.lt x hv).1, (h2.lt x hv).2⟩
        · exact h5 x (List.mem_append_right _ hx)
theorem OwnL.ivalL {w : World} {lo : Nat} {ds : List D} {vs : List Value} (h : OwnL w lo ds vs) : OwnLI w lo w.heap.size ds vs := h
theorem OwnLI.chg {w w' : World} {lo hi : Nat} {ds : List D} {vs : List Value} {F : List Nat} (h : OwnLI w lo hi ds vs) (hc : Chg w w' F) (hhi : hi ≤ w.heap.size) (hF : ∀ g ∈ F, g < lo ∨ hi ≤ g) : OwnLI w' lo hi ds vs := by
  obtain ⟨G, h1, h2, h3⟩ := h
  refine ⟨G, h1, h2, D.ownL.keep ds G vs (fun g hg => hc.2.2.2.2 g (Nat.lt_of_lt_of_le (h2 g hg).2 hhi) (fun hm => ?_)) h3⟩
  have := hF g hm
  have := h2 g hg
  omega

/-- what is left behind the marks of a quarantine, from k on -/
def MarkQ (os : List ObjD) (zs : List AreaD) (k lo hi : Nat) (vm va : Value) (w : World) (e : Ending) (w' : World) : Prop :=
  ∃ F : List Nat, (∀ g ∈ F, lo ≤ g ∧ g < hi) ∧ Chg w w' F ∧ D.rd w' lo hi (D.mark (dObjects os) k) vm ∧ D.rd w' lo hi (D.mark (dAreas zs) (k + D.cnt (dObjects os))) va ∧ e = .returned (.int .i64 ((k + D.cnt (dObjects os) + D.cnt (dAreas zs) : Nat) : Int))
set_option maxRecDepth 100000 in
set_option maxHeartbeats 1600000 in
theorem markQua_d (os : List ObjD) (zs : List AreaD) (A0 : Option Addr) (n0 c0 : Nat) (A1 : Option Addr) (n1 c1 k : Nat) (ki : Int) (lo hi : Nat) (w : World) (hki : ki = (k : Int)) (h1k : 1 ≤ k) (hh : hi ≤ w.heap.size) (hk : k + D.cnt (dObjects os) + D.cnt (dAreas zs) ≤ 1099511627776) (h : OwnLI w lo hi [dObjects os, dAreas zs] [.slice A0 n0 c0, .slice A1 n1 c1]) :
    Calls Try.prog 19 #[.agg #[.slice A0 n0 c0, .slice A1 n1 c1], .int .i64 ki] w fun e w' => MarkQ os zs k lo hi (.slice A0 n0 c0) (.slice A1 n1 c1) w e w' := by
  subst hki
  obtain ⟨F, hF, hb, ho⟩ := h
  obtain ⟨F1, F2, rfl, h0, h1⟩ := ownL_two ho
  have hnd := List.nodup_append.1 hF
  have HC0 : Hid (Chg w (w.alloc (.cells #[.slice A0 n0 c0, .slice A1 n1 c1] 31)) (F1 ++ F2)) := Lib.hid ((Chg.refl w _).bel ((Below.refl _ _).alloc (Nat.le_refl _) _))
  have HX0 : Hid ((w.alloc (.cells #[.slice A0 n0 c0, .slice A1 n1 c1] 31)).heap[w.heap.size]? = some (.cells #[.slice A0 n0 c0, .slice A1 n1 c1] 31 (0, 0))) := Lib.hid (heap_alloc_new w _)
  have H0 : Hid (D.own (w.alloc (.cells #[.slice A0 n0 c0, .slice A1 n1 c1] 31)) (dObjects os) F1 (.slice A0 n0 c0)) := Lib.hid (D.own.keep _ _ _ (fun g hg => Below.heap_alloc _ _ _ (by have := (hb g (List.mem_append_left _ hg)).2; omega)) h0)
  have H1 : Hid (D.own (w.alloc (.cells #[.slice A0 n0 c0, .slice A1 n1 c1] 31)) (dAreas zs) F2 (.slice A1 n1 c1)) := Lib.hid (D.own.keep _ _ _ (fun g hg => Below.heap_alloc _ _ _ (by have := (hb g (List.mem_append_right _ hg)).2; omega)) h1)
  have HB := Lib.hid hb
  have HN := Lib.hid hnd
  clear hF hb ho h0 h1 hnd
  go_enter Try.func19, Try.ntmps19
  go_wp2_with fail
  refine (markObjectS_d os A0 n0 c0 k _ F1 _ rfl (by omega) (by omega) HN.out.1 (fun g hg => by have := (HB.out g (List.mem_append_left _ hg)).2; simp; omega) H0.out).mono ?_
  rintro e w1 ⟨ho1, hc1, rfl⟩
  have hne : w.heap.size ∉ F1 := fun hm => by have := (HB.out _ (List.mem_append_left _ hm)).2; omega
  have HX1 := Lib.hid ((hc1.2.2.2.2 _ (by simp) hne).trans HX0.out)
  have HC1 := Lib.hid (HC0.out.tr (hc1.more (fun g hg => List.mem_append_left F2 hg)))
  have H2 : Hid (D.own w1 (dAreas zs) F2 (.slice A1 n1 c1)) := Lib.hid (D.own.keep _ _ _ (fun g hg => hc1.2.2.2.2 g (by have := (HB.out g (List.mem_append_right _ hg)).2; simp; omega) (fun hm => HN.out.2.2 g hm g hg rfl)) H1.out)
  have hs1 := hc1.2.2.2.1
  have d1 := cell_of_row w1 w.heap.size 1 _ _ _ HX1.out
  have HM1 := Lib.hid ho1
  obtain ⟨q, hq⟩ : ∃ q, q = k + D.cnt (dObjects os) := ⟨_, rfl⟩
  have HQ := Lib.hid hq
  have hq1 : 1 ≤ q := by omega
  have hqk : q + D.cnt (dAreas zs) ≤ 1099511627776 := by omega
  rw [← hq]
  clear hc1 ho1 hq
  go_wp2_with fail
  refine (markAreaS_d zs A1 n1 c1 q _ F2 w1 rfl hq1 hqk HN.out.2.1 (fun g hg => by have := (HB.out g (List.mem_append_right _ hg)).2; simp at hs1; omega) H2.out).mono ?_
  rintro e w2 ⟨ho2, hc2, rfl⟩
  have HC2 := Lib.hid (HC1.out.tr (hc2.more (fun g hg => List.mem_append_right F1 hg)))
  have HM2 : Hid (D.own w2 (D.mark (dObjects os) k) F1 (.slice A0 n0 c0)) := Lib.hid (D.own.keep _ _ _ (fun g hg => hc2.2.2.2.2 g (by have := (HB.out g (List.mem_append_left _ hg)).2; simp at hs1; omega) (fun hm => HN.out.2.2 g hg g hm rfl)) HM1.out)
  have HM3 := Lib.hid ho2
  obtain ⟨z, hz⟩ : ∃ z, z = q + D.cnt (dAreas zs) := ⟨_, rfl⟩
  have HZ := Lib.hid hz
  rw [← hz]
  clear hc2 ho2 hz
  go_wp2_with fail
  go_ret
  refine ⟨F1 ++ F2, HB.out, HC2.out, D.own.rd _ F1 _ (fun g hg => HB.out g (List.mem_append_left _ hg)) HM2.out, ?_, by rw [← HQ.out, ← HZ.out]; rfl⟩
  rw [← HQ.out]
  exact D.own.rd _ F2 _ (fun g hg => HB.out g (List.mem_append_right _ hg)) HM3.out

set_option maxRecDepth 100000 in
set_option maxHeartbeats 1600000 in
theorem heldQua_d (os : List ObjD) (zs : List AreaD) (A0 : Option Addr) (n0 c0 : Nat) (A1 : Option Addr) (n1 c1 k : Nat) (ki : Int) (lo hi : Nat) (w : World) (hki : ki = (k : Int)) (h1k : 1 ≤ k) (hh : hi ≤ w.heap.size) (hk : k + D.cnt (dObjects os) + D.cnt (dAreas zs) ≤ 1099511627776) (h0 : D.rd w lo hi (D.mark (dObjects os) k) (.slice A0 n0 c0)) (h1 : D.rd w lo hi (D.mark (dAreas zs) (k + D.cnt (dObjects os))) (.slice A1 n1 c1)) :
    Calls Try.prog 21 #[.agg #[.slice A0 n0 c0, .slice A1 n1 c1], .int .i64 ki] w fun e w' => Below w.heap.size w w' ∧ e = .returned (.int .i64 ((k + D.cnt (dObjects os) + D.cnt (dAreas zs) : Nat) : Int)) := by
  subst hki
  have HB0 : Hid (Below w.heap.size w (w.alloc (.cells #[.slice A0 n0 c0, .slice A1 n1 c1] 31))) := (Below.refl _ _).alloc (Nat.le_refl _) _
  have HX0 : Hid ((w.alloc (.cells #[.slice A0 n0 c0, .slice A1 n1 c1] 31)).heap[w.heap.size]? = some (.cells #[.slice A0 n0 c0, .slice A1 n1 c1] 31 (0, 0))) := Lib.hid (heap_alloc_new w _)
  have HR0 := Lib.hid (h0.below HB0.out hh)
  have HR1 := Lib.hid h1
  clear h0 h1
  go_enter Try.func21, Try.ntmps21
  go_wp2_with fail
  refine (heldObjectS_d os A0 n0 c0 k _ _ lo hi (Nat.le_trans hh HB0.out.size) rfl (by omega) (by omega) HR0.out).mono ?_
  rintro e w1 ⟨hb1, rfl⟩
  have HB1 := Lib.hid (bel_tr HB0.out (Nat.le_refl _) hb1)
  have HX1 := Lib.hid ((hb1.block _ (by simp)).trans HX0.out)
  have d1 := cell_of_row w1 w.heap.size 1 _ _ _ HX1.out
  have hl1 : w.heap.size < w1.heap.size := hltS HX1.out
  obtain ⟨q, hq⟩ : ∃ q, q = k + D.cnt (dObjects os) := ⟨_, rfl⟩
  have HQ := Lib.hid hq
  have hq1 : 1 ≤ q := by omega
  have hqk : q + D.cnt (dAreas zs) ≤ 1099511627776 := by omega
  have hq0 : ¬ ((q : Int) < 0) := by omega
  rw [← hq] at HR1 ⊢
  clear hb1 hq
  go_wp2_with fail
  refine (heldAreaS_d zs A1 n1 c1 q _ w1 lo hi (Nat.le_trans hh HB1.out.size) rfl hq1 hqk (HR1.out.below HB1.out hh)).mono ?_
  rintro e w2 ⟨hb2, rfl⟩
  have HB2 := Lib.hid (bel_tr HB1.out (Nat.le_refl _) hb2)
  obtain ⟨z, hz⟩ : ∃ z, z = q + D.cnt (dAreas zs) := ⟨_, rfl⟩
  have HZ := Lib.hid hz
  have hq3 : ¬ ((z : Int) < 0) := by omega
  rw [← hz]
  clear hb2 hz
  go_wp2_with fail
  go_ret
  exact ⟨HB2.out, by rw [← HQ.out, ← HZ.out]; rfl⟩

end Go.Proofs.Ytgpjcmplnigmcaa
